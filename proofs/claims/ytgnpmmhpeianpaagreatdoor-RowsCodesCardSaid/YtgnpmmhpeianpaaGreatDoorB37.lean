/- From a walk to a row: how the arguments of these laws are opened, and shut again unturned. -/
import Derived.Test.YtgnpmmhpeianpaaGreatDoorB14
import Derived.Test.YtgnpmmhpeianpaaGreatDoorB05
import Derived.WalkKit
import Derived.ProofKit
import Derived.OpenShut
import Derived.Carry
import Derived.ChangeSlices
import Derived.Deep.Matrix
import Derived.Deep.DeepHandedRow
import Derived.Lib.LaidTab
import Derived.SizedLaws
import Derived.Deep.Slices
import Derived.Deep.Fields
import Derived.Test.YtgnpmmhpeianpaaGreatDoorB17
import Derived.Test.YtgnpmmhpeianpaaGreatDoorB23
namespace Go.Proofs.YtgnpmmhpeianpaaGreatDoor
open Go.ChangeShapes Go.WideShapes Go.ChangeAt Go.RowKit Go.Deep

theorem cellsB : Tryz.prog.cellsOf 5 = 1 := by kernel_rfl
theorem cellsS : Tryz.prog.cellsOf 27 = 1 := by kernel_rfl
theorem laidOut : laidOutB Tryz.prog = true := by kernel_rfl

theorem spot_none {w : World} {a : Addr} {v : Value} (h : w.cell? a = some v) : a.spot = none := by
  unfold World.cell? at h
  split at h
  · split at h
    · cases h
    · rename_i h2; simpa using h2
  · cases h
def byteOf (n : Int) : UInt8 := UInt8.ofNat n.toNat
theorem b8_byteOf {n : Int} (h : (Lit.int .u8 n).wf = true) : b8 (byteOf n) = .int .u8 n := by
  simp only [Lit.wf, Bool.and_eq_true, decide_eq_true_eq] at h
  simp [IntKind.min, IntKind.max, IntKind.bits, IntKind.signed] at h
  unfold b8 byteOf
  have : (UInt8.ofNat n.toNat).toNat = n.toNat := by simp [UInt8.toNat_ofNat']; omega
  rw [this]
  congr 1
  omega

theorem rd_of_cells {w : World} {a : Addr} {n : Nat} {zs : List Int} (hn : n ≤ zs.length) (hc : ∀ i, i < zs.length → w.cell? (a.add i) = some (.int .u8 (zs.getD i 0))) (hw : ∀ z ∈ zs, (Lit.int .u8 z).wf = true) :
    Rd w (some a) n (by8 ((zs.take n).map byteOf)) := by
  refine ⟨by simp; omega, fun h0 => ?_⟩
  obtain ⟨b, o, sp⟩ := a
  have h1 := spot_none (hc 0 (by omega))
  have h2 : sp = none := by
    simpa [Addr.add] using h1
  subst h2
  refine ⟨b, o, rfl, fun j u hu => ?_⟩
  have hj : j < n := by
    have := (List.getElem?_eq_some_iff.1 hu).1
    simp at this
    omega
  have hj2 : j < zs.length := by omega
  rw [by8_get, List.getElem?_map, List.getElem?_take_of_lt hj, List.getElem?_eq_getElem hj2] at hu
  simp only [Option.map_some, Option.some.injEq] at hu
  have h3 := hc j hj2
  have h4 : (⟨b, o, none⟩ : Addr).add j = ⟨b, o + j, none⟩ := by unfold Addr.add; split <;> simp_all
  rw [h4, List.getD_eq_getElem?_getD, List.getElem?_eq_getElem hj2] at h3
  rw [h3, ← hu, b8_byteOf (hw _ (List.getElem_mem hj2))]
  rfl

section
variable {H : Type} {enc : TypeId × Value → H} {w : World}
set_option maxRecDepth 100000 in
/-- a slice of bytes among the arguments. -/
theorem open_bytes {b0 : Nat} {v : Value} {d : DataW H} {p : List MemPlace} (hv : Value.okWide Tryz.prog w .any b0 27 v) (h : DataW.Trod enc Tryz.prog w 0 (fun _ => true) true 27 v d p) :
    ∃ A n c l, v = .slice A n c ∧ n ≤ c ∧ c ≤ 9223372036854775807 ∧ Rd w A n (by8 l) := by
  obtain ⟨a0, n0, c0, rfl⟩ := okWide_slice Tryz.underlying27 hv
  obtain ⟨fuel, hf⟩ := h
  have hmx : maxLen = 9223372036854775807 := rfl
  rcases open_ints (k := .u8) Tryz.underlying27 Tryz.underlying5 cellsB hf with ⟨hcs, _⟩ | ⟨a, len, cap, zs, hcs, _, hl, hm, hz, _, hcell, hwz⟩
  · simp [Value.cells] at hcs
    obtain ⟨rfl, rfl, rfl⟩ := hcs
    exact ⟨none, 0, 0, [], rfl, Nat.le_refl _, by omega, Rd.nil _ _⟩
  · simp [Value.cells] at hcs
    obtain ⟨rfl, rfl, rfl⟩ := hcs
    simp only [if_true] at hz
    exact ⟨some a, n0, c0, _, rfl, hl, by omega, rd_of_cells (by omega) hcell hwz⟩
set_option maxRecDepth 100000 in
/-- a slice of slices of bytes among the arguments. -/
theorem open_rows {b0 : Nat} {v : Value} {d : DataW H} {p : List MemPlace} (hv : Value.okWide Tryz.prog w .any b0 139 v) (h : DataW.Trod enc Tryz.prog w 0 (fun _ => true) true 139 v d p) :
    ∃ A n c xs, v = .slice A n c ∧ n ≤ c ∧ c ≤ 9223372036854775807 ∧ RdS w A n xs ∧ ∀ x ∈ xs, x.n ≤ 9223372036854775807 := by
  obtain ⟨a0, n0, c0, rfl⟩ := okWide_slice Tryz.underlying139 hv
  obtain ⟨fuel, hf⟩ := h
  have hmx : maxLen = 9223372036854775807 := rfl
  rcases open_int_rows (k := .u8) Tryz.underlying139 Tryz.underlying27 Tryz.underlying5 cellsS cellsB hf with ⟨hcs, _⟩ | ⟨a, len, cap, A, L, C, Z, hcs, _, hl, hm, _, hrow⟩
  · simp [Value.cells] at hcs
    obtain ⟨rfl, rfl, rfl⟩ := hcs
    exact ⟨none, 0, 0, [], rfl, Nat.le_refl _, by omega, ⟨Rd.nil _ _, by simp⟩, by simp⟩
  · simp [Value.cells] at hcs
    obtain ⟨rfl, rfl, rfl⟩ := hcs
    refine ⟨some a, n0, c0, (List.range n0).map fun r => ⟨A r, L r, C r, ((Z r).take (L r)).map byteOf⟩, rfl, hl, by omega, ⟨⟨by simp, fun h0 => ?_⟩, fun x hx => ?_⟩, fun x hx => ?_⟩
    · obtain ⟨b, o, sp⟩ := a
      have h1 := spot_none (hrow 0 (by omega)).1
      have h2 : sp = none := by
        simpa [Addr.add] using h1
      subst h2
      refine ⟨b, o, rfl, fun j u hu => ?_⟩
      simp only [List.map_map] at hu
      have hj : j < n0 := by
        have := (List.getElem?_eq_some_iff.1 hu).1
        simpa using this
      rw [List.getElem?_map, List.getElem?_range hj] at hu
      simp only [Option.map_some, Option.some.injEq] at hu
      subst hu
      have h4 : (⟨b, o, none⟩ : Addr).add j = ⟨b, o + j, none⟩ := by unfold Addr.add; split <;> simp_all
      have h3 := (hrow j (by omega)).1
      rw [h4] at h3
      exact h3
    · obtain ⟨r, hr, rfl⟩ := List.mem_map.1 hx
      have hr' := List.mem_range.1 hr
      obtain ⟨_, h2, h3, h4, h5, h6, h7⟩ := hrow r (by omega)
      cases hA : A r with
      | none =>
        have h0 := h6 hA
        have : L r = 0 := by omega
        simp only [this]
        have hz : (Z r).take 0 = [] := rfl
        rw [hz]
        exact Rd.nil _ _
      | some a' =>
        exact rd_of_cells (by show L r ≤ _; omega) (fun i hi => (h7 a' hA).2 i (by omega)) h5
    · obtain ⟨r, hr, rfl⟩ := List.mem_map.1 hx
      have hr' := List.mem_range.1 hr
      obtain ⟨_, h2, h3, _⟩ := hrow r (by omega)
      simp only
      omega
end

/-- The arguments read behind the call as before, where nothing old has turned. -/
theorem trodAll_stays {H : Type} {enc : TypeId × Value → H} {W W' : World} (hb : Below W.heap.size W W') : ∀ {ts : List TypeId} {vs : List Value} {ds : List (DataW H)} {p : List MemPlace},
    (∀ t ∈ ts, Tryz.prog.readableRec t = true ∧ t < Tryz.prog.types.size) → DataW.TrodAll enc Tryz.prog W 0 (fun _ => true) true ts vs ds p → (∀ x ∈ p, x.block < W.heap.size) →
    DataW.TrodAll enc Tryz.prog W' 0 (fun b => decide (b < W.heap.size)) true ts vs ds p
  | [], _, _, _, _, h, _ => by
    obtain ⟨rfl, rfl, rfl⟩ := trodAll_nil h
    exact trodAll_mk0
  | t :: ts, _, _, _, ht, h, hp => by
    obtain ⟨v, vs1, d, ds1, a, b, rfl, rfl, rfl, h1, h2⟩ := trodAll_cons h
    exact trodAll_cons_mk (Below.trod laidOut (ht t (.head _)).1 (ht t (.head _)).2 h1 hb fun x hx => hp x (by simp [hx])) (trodAll_stays hb (fun t' h' => ht t' (.tail _ h')) h2 fun x hx => hp x (by simp [hx]))

theorem tab32 : (Tryz.prog.globals[powG]?).map (·.type) = some 429 := by kernel_rfl
theorem cells20 : Tryz.prog.cellsOf 429 = 20 := by kernel_rfl
theorem cells64 : Tryz.prog.cellsOf 186 = 1 := by kernel_rfl
theorem lay_of_laid {x y : String × DataW Unit} {r : List (String × DataW Unit)} {W : World} (h : laidMet Tryz.prog (x :: y :: ("internal/strconv.uint64pow10", Lib.tabData .u64 Lib.pow10Tab) :: r) W) : Lay W := by
  obtain ⟨ps, ⟨_, _, _, _, _, _, _, _, _, _, ⟨_, _, _, _, _, _, _, _, _, _, ⟨g', t', cs, fuel, p, q, hg', ht', hvar, hd, _, _⟩, _⟩, _⟩, _⟩ := h
  obtain rfl := Option.some.inj (powG_is.symm.trans hg')
  obtain rfl := Option.some.inj (tab32.symm.trans ht')
  unfold Lay Lib.TabIs
  rw [hvar, ← Lib.cells_of_tab Tryz.underlying429 Tryz.underlying186 cells64 cells20 hd]

theorem lay_of_laid0 {r : List (String × DataW Unit)} {W : World} (h : laidMet Tryz.prog (("internal/strconv.uint64pow10", Lib.tabData .u64 Lib.pow10Tab) :: r) W) : Lay W := by
  obtain ⟨ps, ⟨g', t', cs, fuel, p, q, hg', ht', hvar, hd, _, _⟩, _⟩ := h
  obtain rfl := Option.some.inj (powG_is.symm.trans hg')
  obtain rfl := Option.some.inj (tab32.symm.trans ht')
  unfold Lay Lib.TabIs
  rw [hvar, ← Lib.cells_of_tab Tryz.underlying429 Tryz.underlying186 cells64 cells20 hd]

end Go.Proofs.YtgnpmmhpeianpaaGreatDoor

/- Arguments opened by their types: what reads as data, within the form's reach. -/
namespace Go.Proofs.YtgnpmmhpeianpaaGreatDoor
open Go.ChangeShapes Go.WideShapes Go.ChangeAt Go.RowKit Go.Deep

/-- these cells read as data of a type, and all that they lead to is within the reach. -/
def Reads {H : Type} (enc : TypeId × Value → H) (P : Program) (w : World) (t : TypeId) (cs : List Value) : Prop :=
  ∃ (d : DataW H) (p : List MemPlace) (n : Nat), DataW.trod enc P w 0 (fun _ => true) true n t cs = some (d, p) ∧ ∀ x ∈ d.weights P t, x ≤ reachBytes

theorem weightsAll_in {H : Type} {P : Program} {e : TypeId} : ∀ {l : List (DataW H)} {d : DataW H}, d ∈ l → ∀ n ∈ d.weights P e, n ∈ DataW.weightsAll P e l
  | d' :: r, d, hd, n, hn => by
    simp only [DataW.weightsAll, List.mem_append]
    rcases List.mem_cons.1 hd with rfl | h
    · exact Or.inl hn
    · exact Or.inr (weightsAll_in h n hn)

section
variable {H : Type} {enc : TypeId × Value → H} {P : Program} {w : World} {t : TypeId} {cs : List Value}

/-- an argument. -/
theorem Reads.arg {ts : List TypeId} {ds : List (DataW H)} {j : Nat} {v : Value} {d : DataW H} {p : List MemPlace} (h : DataW.Trod enc P w 0 (fun _ => true) true t v d p) (hz : (DataW.weightsEach P ts ds).all (· ≤ reachBytes) = true)
    (ht : ts[j]? = some t) (hd : ds[j]? = some d) : Reads enc P w t v.cells.toList := by
  obtain ⟨fuel, hf⟩ := h
  refine ⟨d, p, fuel, by simpa using hf, fun x hx => ?_⟩
  have := List.all_eq_true.1 hz x (DataW.weights_mem_each ht hd x hx)
  simpa using this
theorem Reads.int {k : IntKind} (ht : P.underlying t = some (.int k)) (h : Reads enc P w t cs) : ∃ n, cs = [.int k n] ∧ (Lit.int k n).wf = true := by
  obtain ⟨d, p, n, hf, _⟩ := h
  obtain ⟨x, h1, _, h2⟩ := DataW.trod_int ht hf
  exact ⟨x, h1, h2⟩
theorem Reads.string (ht : P.underlying t = some .string) (h : Reads enc P w t cs) : ∃ s : ByteArray, cs = [.string s] ∧ s.size ≤ 140737488351232 := by
  obtain ⟨d, p, n, hf, hw⟩ := h
  obtain ⟨s, h1, h2, _⟩ := DataW.trod_string ht hf
  cases h2
  refine ⟨s, h1, ?_⟩
  have := hw s.data.toList.length (by simp [DataW.weights])
  have hr : reachBytes = 140737488351232 := rfl
  simp only [Array.length_toList] at this
  rw [hr] at this
  exact this
theorem Reads.slice {e : TypeId} {k : Nat} (ht : P.underlying t = some (.slice e)) (hk : P.cellsOf e = k) (h0 : 0 < k) (h : Reads enc P w t cs) :
    ∃ (A : Option Addr) (n c : Nat), cs = [.slice A n c] ∧ n ≤ c ∧ c ≤ maxLen ∧ n * P.bytesOf e ≤ 140737488351232 ∧
      (0 < n → ∃ b o, A = some ⟨b, o, none⟩ ∧ ∀ i, i < n → ∃ cs', cs'.length = k ∧ (∀ j u, cs'[j]? = some u → w.cell? ⟨b, o + (i * k + j), none⟩ = some u) ∧ Reads enc P w e cs') := by
  obtain ⟨d, p, fuel, hf, hw⟩ := h
  rcases open_slice ht hf with ⟨rfl, _⟩ | ⟨a, len, cap, m, n, D, Pl, rfl, _, hl, hm, hmm, hx, hel⟩
  · exact ⟨none, 0, 0, rfl, Nat.le_refl _, by simp, by simp, fun h => absurd h (by omega)⟩
  · cases hx
    simp only [if_true] at hmm
    refine ⟨some a, len, cap, rfl, hl, hm, ?_, fun hn => ?_⟩
    · have := hw ((((List.range len).map D).length + ((List.range (m - len)).map fun j => D (len + j)).length) * P.bytesOf e) (by simp [DataW.weights, ht])
      have hr : reachBytes = 140737488351232 := rfl
      rw [hr] at this
      refine Nat.le_trans (Nat.mul_le_mul_right _ ?_) this
      simp
    · obtain ⟨b, o, sp⟩ := a
      obtain ⟨cs0, hc0, _⟩ := hel 0 (by omega)
      obtain ⟨_, hl0, hcell0⟩ := World.cells?_some hc0
      have h1 := hcell0 0 (by omega)
      rw [List.getElem?_eq_getElem (by omega), add_add] at h1
      have h2 := spot_none h1
      have h3 : sp = none := by simpa [Addr.add] using h2
      subst h3
      refine ⟨b, o, rfl, fun i hi => ?_⟩
      obtain ⟨cs', hc, hr⟩ := hel i (by omega)
      obtain ⟨_, hl', hcell⟩ := World.cells?_some hc
      refine ⟨cs', by omega, fun j u hu => ?_, D i, Pl i, n, hr, fun x hx => hw x ?_⟩
      · have hj := (List.getElem?_eq_some_iff.1 hu).1
        have := hcell j (by omega)
        rw [add_add, hu, hk] at this
        have h4 : (⟨b, o, none⟩ : Addr).add (i * k + j) = ⟨b, o + (i * k + j), none⟩ := by unfold Addr.add; split <;> simp_all
        rw [h4] at this
        exact this
      · simp only [DataW.weights, ht, List.mem_cons, List.mem_append]
        exact .inr (.inl (weightsAll_in (List.mem_map.2 ⟨i, List.mem_range.2 hi, rfl⟩) x hx))
theorem Reads.struct {fs : Array Field} (hs : P.underlying t = some (.struct fs)) (hone : ∀ (i : Nat) (f : Field), fs[i]? = some f → f.offset = i ∧ P.cellsOf f.type = 1) (hC : P.cellsOf t = fs.size) (h : Reads enc P w t cs) :
    cs.length = fs.size ∧ ∀ (i : Nat) (f : Field), fs[i]? = some f → ∃ v, cs[i]? = some v ∧ Reads enc P w f.type [v] := by
  obtain ⟨d, p, fuel, hf, hw⟩ := h
  obtain ⟨xs, n, _, hx, hlen, hxl, hfs⟩ := DataW.trod_struct hs hf
  cases hx
  refine ⟨by omega, fun i f hi => ?_⟩
  have hlt : i < fs.size := (Array.getElem?_eq_some_iff.1 hi).1
  obtain ⟨ho, hc1⟩ := hone i f hi
  have g := hfs i f hi
  rw [ho, hc1, take1_drop cs i undef (by omega), List.getElem?_eq_getElem (by omega)] at g
  have hv : cs[i]? = some (cs.getD i undef) := by simp [List.getD, List.getElem?_eq_getElem (show i < cs.length by omega)]
  refine ⟨_, hv, (xs[i]'(by omega)).1, (xs[i]'(by omega)).2, n, g, fun x hx => hw x ?_⟩
  simp only [DataW.weights, hs]
  exact DataW.weights_mem_each (j := i) (t := f.type) (d := (xs[i]'(by omega)).1) (by simp [hi]) (by simp [List.getElem?_eq_getElem (show i < xs.length by omega)]) x hx
theorem Reads.get {fs : Array Field} {i : Nat} {f : Field} (h : cs.length = fs.size ∧ ∀ (i : Nat) (f : Field), fs[i]? = some f → ∃ v, cs[i]? = some v ∧ Reads enc P w f.type [v]) (hi : fs[i]? = some f) : Reads enc P w f.type [cs.getD i undef] := by
  obtain ⟨v, h1, h2⟩ := h.2 i f hi
  rw [List.getD, h1]
  exact h2
end

/-- a list out of its elements by index. -/
theorem list_of {α : Type} (q : Nat → α → Prop) : ∀ n : Nat, (∀ i, i < n → ∃ x, q i x) → ∃ xs : List α, xs.length = n ∧ ∀ i x, xs[i]? = some x → q i x
  | 0, _ => ⟨[], rfl, fun i x h => by cases h⟩
  | n + 1, h => by
    obtain ⟨xs, hl, hx⟩ := list_of q n fun i hi => h i (by omega)
    obtain ⟨y, hy⟩ := h n (by omega)
    refine ⟨xs ++ [y], by simp [hl], fun i x hi => ?_⟩
    rcases Nat.lt_or_ge i n with hlt | hge
    · rw [List.getElem?_append_left (by omega)] at hi
      exact hx i x hi
    · rw [List.getElem?_append_right (by omega)] at hi
      have : i - xs.length = 0 := by
        have := (List.getElem?_eq_some_iff.1 hi).1
        simp at this
        omega
      rw [this] at hi
      cases hi
      obtain rfl : i = n := by omega
      exact hy

/-- the cells of a row of elements of k cells each. -/
theorem rd_rows {α : Type} {w : World} (k : Nat) (cellsX : α → List Value) (hk : ∀ x, (cellsX x).length = k) {b o n : Nat} {xs : List α} (hl : xs.length = n)
    (h : ∀ i x, xs[i]? = some x → ∀ j u, (cellsX x)[j]? = some u → w.cell? ⟨b, o + (i * k + j), none⟩ = some u) : Rd w (some ⟨b, o, none⟩) (n * k) (xs.flatMap cellsX) := by
  have key : ∀ (ys : List α) (q : Nat), (∀ i x, ys[i]? = some x → ∀ j u, (cellsX x)[j]? = some u → w.cell? ⟨b, o + (q * k + (i * k + j)), none⟩ = some u) →
      (ys.flatMap cellsX).length = ys.length * k ∧ ∀ j u, (ys.flatMap cellsX)[j]? = some u → w.cell? ⟨b, o + (q * k + j), none⟩ = some u := by
    intro ys
    induction ys with
    | nil => intro q _; exact ⟨by simp, fun j u hu => by cases hu⟩
    | cons y r ih =>
      intro q hy
      obtain ⟨h1, h2⟩ := ih (q + 1) fun i x hx j u hu => by
        have := hy (i + 1) x hx j u hu
        rw [show q * k + ((i + 1) * k + j) = (q + 1) * k + (i * k + j) by rw [Nat.add_mul, Nat.add_mul]; omega] at this
        exact this
      refine ⟨by rw [List.flatMap_cons, List.length_append, h1, hk, List.length_cons, Nat.add_mul]; omega, fun j u hu => ?_⟩
      rw [List.flatMap_cons] at hu
      rcases Nat.lt_or_ge j k with hlt | hge
      · rw [List.getElem?_append_left (by rw [hk]; exact hlt)] at hu
        have := hy 0 y rfl j u hu
        rw [Nat.zero_mul, Nat.zero_add] at this
        exact this
      · rw [List.getElem?_append_right (by rw [hk]; exact hge), hk] at hu
        have := h2 (j - k) u hu
        rw [show (q + 1) * k + (j - k) = q * k + j by rw [Nat.add_mul]; omega] at this
        exact this
  obtain ⟨h1, h2⟩ := key xs 0 fun i x hx j u hu => by rw [Nat.zero_mul, Nat.zero_add]; exact h i x hx j u hu
  refine ⟨by rw [h1, hl], fun _ => ⟨b, o, rfl, fun j u hu => ?_⟩⟩
  have := h2 j u hu
  rwa [Nat.zero_mul, Nat.zero_add] at this

theorem bytes8 : Tryz.prog.bytesOf 5 = 1 := by kernel_rfl
section
variable {H : Type} {enc : TypeId × Value → H} {w : World} {cs : List Value}
/-- bytes. -/
theorem Reads.bytes (h : Reads enc Tryz.prog w 27 cs) : ∃ (A : Option Addr) (n c : Nat) (l : List UInt8), cs = [.slice A n c] ∧ n ≤ c ∧ c ≤ 9223372036854775807 ∧ n ≤ 140737488351232 ∧ Rd w A n (by8 l) ∧ l.length = n := by
  obtain ⟨A, n, c, rfl, hnc, hcm, hz, hc⟩ := h.slice Tryz.underlying27 cellsB (by omega)
  rw [bytes8, Nat.mul_one] at hz
  rcases Nat.eq_zero_or_pos n with rfl | h0
  · exact ⟨A, 0, c, [], rfl, hnc, hcm, hz, Rd.nil _ _, rfl⟩
  · obtain ⟨b, o, rfl, hel⟩ := hc h0
    obtain ⟨l, hl, hb⟩ := list_of (fun i (x : UInt8) => w.cell? ⟨b, o + i, none⟩ = some (b8 x)) n fun i hi => by
      obtain ⟨cs', _, hcell, hr⟩ := hel i hi
      obtain ⟨x, rfl, hwf⟩ := hr.int Tryz.underlying5
      have := hcell 0 _ rfl
      rw [Nat.mul_one] at this
      exact ⟨byteOf x, by rw [b8_byteOf hwf]; exact this⟩
    refine ⟨_, n, c, l, rfl, hnc, hcm, hz, ⟨by simp [hl], fun _ => ⟨b, o, rfl, fun j u hu => ?_⟩⟩, hl⟩
    rw [by8_get] at hu
    obtain ⟨x, hx, rfl⟩ := Option.map_eq_some_iff.1 hu
    exact hb j x hx
/-- ints. -/
theorem cellsInt : Tryz.prog.cellsOf 3 = 1 := by kernel_rfl
theorem Reads.ints (h : Reads enc Tryz.prog w 71 cs) : ∃ (A : Option Addr) (n c : Nat) (l : List Int), cs = [.slice A n c] ∧ n ≤ c ∧ c ≤ 9223372036854775807 ∧ Rd w A n (l.map (Value.int .i64)) ∧ l.length = n := by
  obtain ⟨A, n, c, rfl, hnc, hcm, hz, hc⟩ := h.slice Tryz.underlying71 cellsInt (by omega)
  rcases Nat.eq_zero_or_pos n with rfl | h0
  · exact ⟨A, 0, c, [], rfl, hnc, hcm, Rd.nil _ _, rfl⟩
  · obtain ⟨b, o, rfl, hel⟩ := hc h0
    obtain ⟨l, hl, hb⟩ := list_of (fun i (x : Int) => w.cell? ⟨b, o + i, none⟩ = some (.int .i64 x)) n fun i hi => by
      obtain ⟨cs', _, hcell, hr⟩ := hel i hi
      obtain ⟨x, rfl, _⟩ := hr.int Tryz.underlying3
      have := hcell 0 _ rfl
      rw [Nat.mul_one] at this
      exact ⟨x, this⟩
    refine ⟨_, n, c, l, rfl, hnc, hcm, ⟨by simp [hl], fun _ => ⟨b, o, rfl, fun j u hu => ?_⟩⟩, hl⟩
    rw [List.getElem?_map] at hu
    obtain ⟨x, hx, rfl⟩ := Option.map_eq_some_iff.1 hu
    exact hb j x hx
end

end Go.Proofs.YtgnpmmhpeianpaaGreatDoor

/- The arguments of the laws of package rows opened: trees, heads. -/
namespace Go.Proofs.YtgnpmmhpeianpaaGreatDoor
open Go.ChangeShapes Go.WideShapes Go.ChangeAt Go.RowKit Go.Deep

theorem cellsStr : Tryz.prog.cellsOf 9 = 1 := by kernel_rfl
section
variable {H : Type} {enc : TypeId × Value → H} {w : World} {cs : List Value}
/-- texts. -/
theorem Reads.texts (h : Reads enc Tryz.prog w 24 cs) : ∃ (A : Option Addr) (n c : Nat) (l : List ByteArray), cs = [.slice A n c] ∧ n ≤ c ∧ c ≤ 9223372036854775807 ∧ Rd w A n (l.map Value.string) ∧ l.length = n := by
  obtain ⟨A, n, c, rfl, hnc, hcm, _, hc⟩ := h.slice Tryz.underlying24 cellsStr (by omega)
  rcases Nat.eq_zero_or_pos n with rfl | h0
  · exact ⟨A, 0, c, [], rfl, hnc, hcm, Rd.nil _ _, rfl⟩
  · obtain ⟨b, o, rfl, hel⟩ := hc h0
    obtain ⟨l, hl, hb⟩ := list_of (fun i (x : ByteArray) => w.cell? ⟨b, o + i, none⟩ = some (.string x)) n fun i hi => by
      obtain ⟨cs', _, hcell, hr⟩ := hel i hi
      obtain ⟨x, rfl, _⟩ := hr.string Tryz.underlying9
      have := hcell 0 _ rfl
      rw [Nat.mul_one] at this
      exact ⟨x, this⟩
    refine ⟨_, n, c, l, rfl, hnc, hcm, ⟨by simp [hl], fun _ => ⟨b, o, rfl, fun j u hu => ?_⟩⟩, hl⟩
    rw [List.getElem?_map] at hu
    obtain ⟨x, hx, rfl⟩ := Option.map_eq_some_iff.1 hu
    exact hb j x hx
set_option maxRecDepth 100000 in
/-- a tree. -/
theorem open_tree (h : Reads enc Tryz.prog w 23 cs) : ∃ (id st q : Int) (nm ky : ByteArray), cs = (tCells id st q nm ky).toList ∧ ky.size ≤ 140737488351232 := by
  obtain ⟨hl, hf⟩ := h.struct Tryz.underlying23 (hone_of (by kernel_rfl)) (by kernel_rfl)
  obtain ⟨v0, e0, r0⟩ := hf 0 _ rfl
  obtain ⟨v1, e1, r1⟩ := hf 1 _ rfl
  obtain ⟨v2, e2, r2⟩ := hf 2 _ rfl
  obtain ⟨v3, e3, r3⟩ := hf 3 _ rfl
  obtain ⟨v4, e4, r4⟩ := hf 4 _ rfl
  obtain ⟨i0, h0, _⟩ := r0.int Tryz.underlying3
  obtain ⟨i1, h1, _⟩ := r1.int Tryz.underlying3
  obtain ⟨i2, h2, _⟩ := r2.int Tryz.underlying3
  obtain ⟨s3, h3, _⟩ := r3.string Tryz.underlying9
  obtain ⟨s4, h4, hs4⟩ := r4.string Tryz.underlying9
  cases h0; cases h1; cases h2; cases h3; cases h4
  refine ⟨i0, i1, i2, s3, s4, ?_, hs4⟩
  match cs, hl with
  | [a0, a1, a2, a3, a4], _ =>
    simp only [List.getElem?_cons_zero, List.getElem?_cons_succ, Option.some.injEq] at e0 e1 e2 e3 e4
    rw [e0, e1, e2, e3, e4]
    rfl
set_option maxRecDepth 100000 in
/-- a head. -/
theorem open_head (h : Reads enc Tryz.prog w 26 cs) : ∃ (sz : Int) (root : ByteArray) (tk ep : Int) (A : Option Addr) (n c : Nat) (nodes : List ByteArray) (sig : ByteArray), cs = (hCells sz root tk ep A n c sig).toList ∧ root.size ≤ 140737488351232 ∧ Rd w A n (nodes.map Value.string) ∧ n ≤ 9223372036854775807 := by
  obtain ⟨hl, hf⟩ := h.struct Tryz.underlying26 (hone_of (by kernel_rfl)) (by kernel_rfl)
  obtain ⟨v0, e0, r0⟩ := hf 0 _ rfl
  obtain ⟨v1, e1, r1⟩ := hf 1 _ rfl
  obtain ⟨v2, e2, r2⟩ := hf 2 _ rfl
  obtain ⟨v3, e3, r3⟩ := hf 3 _ rfl
  obtain ⟨v4, e4, r4⟩ := hf 4 _ rfl
  obtain ⟨v5, e5, r5⟩ := hf 5 _ rfl
  obtain ⟨i0, h0, _⟩ := r0.int Tryz.underlying3
  obtain ⟨s1, h1, hs1⟩ := r1.string Tryz.underlying9
  obtain ⟨i2, h2, _⟩ := r2.int Tryz.underlying3
  obtain ⟨i3, h3, _⟩ := r3.int Tryz.underlying3
  obtain ⟨A, n, c, l, h4, hnc, hcm, hrd, _⟩ := r4.texts
  obtain ⟨s5, h5, _⟩ := r5.string Tryz.underlying9
  cases h0; cases h1; cases h2; cases h3; cases h4; cases h5
  refine ⟨i0, s1, i2, i3, A, n, c, l, s5, ?_, hs1, hrd, by omega⟩
  match cs, hl with
  | [a0, a1, a2, a3, a4, a5], _ =>
    simp only [List.getElem?_cons_zero, List.getElem?_cons_succ, Option.some.injEq] at e0 e1 e2 e3 e4 e5
    rw [e0, e1, e2, e3, e4, e5]
    rfl
end

end Go.Proofs.YtgnpmmhpeianpaaGreatDoor
