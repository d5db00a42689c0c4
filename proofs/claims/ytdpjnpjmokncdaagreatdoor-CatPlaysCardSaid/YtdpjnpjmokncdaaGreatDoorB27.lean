/- Arguments opened by their types: what reads as data, within the form's reach. -/
import Derived.Test.YtdpjnpjmokncdaaGreatDoorB26
import Derived.SizedLaws
import Derived.Deep.Slices
import Derived.Deep.Fields
namespace Go.Proofs.YtdpjnpjmokncdaaGreatDoor
open Go.ChangeShapes Go.WideShapes Go.ChangeAt Go.RowKit Go.Deep

/-- these cells read as data of a type, and all that they lead to is within the reach. -/
def Reads {H : Type} (enc : TypeId × Value → H) (P : Program) (w : World) (t : TypeId) (cs : List Value) : Prop :=
  ∃ (d : DataW H) (p : List MemPlace) (n : Nat), DataW.trod enc P w 0 (fun _ => true) true n t cs = some (d, p) ∧ ∀ x ∈ d.weights P t, x ≤ reachBytes

theorem weightsAll_in {H : Type} {P : Program} {e : TypeId} : ∀ {l : List (DataW H)} {d : DataW H}, d ∈ l → ∀ n ∈ d.weights P e, n ∈ DataW.weightsAll P e l
  | d' :: r, d, hd, n, hn => by
    simp only [DataW.weightsAll, List.mem_append]
    rcases List.mem_cons.1 hd with rfl | h
    · exact Or.inl hn
    · exact Or.inr (weightsAll_in h n hn)

section
variable {H : Type} {enc : TypeId × Value → H} {P : Program} {w : World} {t : TypeId} {cs : List Value}

/-- an argument. -/
theorem Reads.arg {ts : List TypeId} {ds : List (DataW H)} {j : Nat} {v : Value} {d : DataW H} {p : List MemPlace} (h : DataW.Trod enc P w 0 (fun _ => true) true t v d p) (hz : (DataW.weightsEach P ts ds).all (· ≤ reachBytes) = true)
    (ht : ts[j]? = some t) (hd : ds[j]? = some d) : Reads enc P w t v.cells.toList := by
  obtain ⟨fuel, hf⟩ := h
  refine ⟨d, p, fuel, by simpa using hf, fun x hx => ?_⟩
  have := List.all_eq_true.1 hz x (DataW.weights_mem_each ht hd x hx)
  simpa using this
theorem Reads.int {k : IntKind} (ht : P.underlying t = some (.int k)) (h : Reads enc P w t cs) : ∃ n, cs = [.int k n] ∧ (Lit.int k n).wf = true := by
  obtain ⟨d, p, n, hf, _⟩ := h
  obtain ⟨x, h1, _, h2⟩ := DataW.trod_int ht hf
  exact ⟨x, h1, h2⟩
theorem Reads.string (ht : P.underlying t = some .string) (h : Reads enc P w t cs) : ∃ s : ByteArray, cs = [.string s] ∧ s.size ≤ 140737488351232 := by
  obtain ⟨d, p, n, hf, hw⟩ := h
  obtain ⟨s, h1, h2, _⟩ := DataW.trod_string ht hf
  cases h2
  refine ⟨s, h1, ?_⟩
  have := hw s.data.toList.length (by simp [DataW.weights])
  have hr : reachBytes = 140737488351232 := rfl
  simp only [Array.length_toList] at this
  rw [hr] at this
  exact this
theorem Reads.slice {e : TypeId} {k : Nat} (ht : P.underlying t = some (.slice e)) (hk : P.cellsOf e = k) (h0 : 0 < k) (h : Reads enc P w t cs) :
    ∃ (A : Option Addr) (n c : Nat), cs = [.slice A n c] ∧ n ≤ c ∧ c ≤ maxLen ∧ n * P.bytesOf e ≤ 140737488351232 ∧
      (0 < n → ∃ b o, A = some ⟨b, o, none⟩ ∧ ∀ i, i < n → ∃ cs', cs'.length = k ∧ (∀ j u, cs'[j]? = some u → w.cell? ⟨b, o + (i * k + j), none⟩ = some u) ∧ Reads enc P w e cs') := by
  obtain ⟨d, p, fuel, hf, hw⟩ := h
  rcases open_slice ht hf with ⟨rfl, _⟩ | ⟨a, len, cap, m, n, D, Pl, rfl, _, hl, hm, hmm, hx, hel⟩
  · exact ⟨none, 0, 0, rfl, Nat.le_refl _, by simp, by simp, fun h => absurd h (by omega)⟩
  · cases hx
    simp only [if_true] at hmm
    refine ⟨some a, len, cap, rfl, hl, hm, ?_, fun hn => ?_⟩
    · have := hw ((((List.range len).map D).length + ((List.range (m - len)).map fun j => D (len + j)).length) * P.bytesOf e) (by simp [DataW.weights, ht])
      have hr : reachBytes = 140737488351232 := rfl
      rw [hr] at this
      refine Nat.le_trans (Nat.mul_le_mul_right _ ?_) this
      simp
    · obtain ⟨b, o, sp⟩ := a
      obtain ⟨cs0, hc0, _⟩ := hel 0 (by omega)
      obtain ⟨_, hl0, hcell0⟩ := World.cells?_some hc0
      have h1 := hcell0 0 (by omega)
      rw [List.getElem?_eq_getElem (by omega), add_add] at h1
      have h2 := spot_none h1
      have h3 : sp = none := by simpa [Addr.add] using h2
      subst h3
      refine ⟨b, o, rfl, fun i hi => ?_⟩
      obtain ⟨cs', hc, hr⟩ := hel i (by omega)
      obtain ⟨_, hl', hcell⟩ := World.cells?_some hc
      refine ⟨cs', by omega, fun j u hu => ?_, D i, Pl i, n, hr, fun x hx => hw x ?_⟩
      · have hj := (List.getElem?_eq_some_iff.1 hu).1
        have := hcell j (by omega)
        rw [add_add, hu, hk] at this
        have h4 : (⟨b, o, none⟩ : Addr).add (i * k + j) = ⟨b, o + (i * k + j), none⟩ := by unfold Addr.add; split <;> simp_all
        rw [h4] at this
        exact this
      · simp only [DataW.weights, ht, List.mem_cons, List.mem_append]
        exact .inr (.inl (weightsAll_in (List.mem_map.2 ⟨i, List.mem_range.2 hi, rfl⟩) x hx))
theorem Reads.struct {fs : Array Field} (hs : P.underlying t = some (.struct fs)) (hone : ∀ (i : Nat) (f : Field), fs[i]? = some f → f.offset = i ∧ P.cellsOf f.type = 1) (hC : P.cellsOf t = fs.size) (h : Reads enc P w t cs) :
    cs.length = fs.size ∧ ∀ (i : Nat) (f : Field), fs[i]? = some f → ∃ v, cs[i]? = some v ∧ Reads enc P w f.type [v] := by
  obtain ⟨d, p, fuel, hf, hw⟩ := h
  obtain ⟨xs, n, _, hx, hlen, hxl, hfs⟩ := DataW.trod_struct hs hf
  cases hx
  refine ⟨by omega, fun i f hi => ?_⟩
  have hlt : i < fs.size := (Array.getElem?_eq_some_iff.1 hi).1
  obtain ⟨ho, hc1⟩ := hone i f hi
  have g := hfs i f hi
  rw [ho, hc1, take1_drop cs i undef (by omega), List.getElem?_eq_getElem (by omega)] at g
  have hv : cs[i]? = some (cs.getD i undef) := by simp [List.getD, List.getElem?_eq_getElem (show i < cs.length by omega)]
  refine ⟨_, hv, (xs[i]'(by omega)).1, (xs[i]'(by omega)).2, n, g, fun x hx => hw x ?_⟩
  simp only [DataW.weights, hs]
  exact DataW.weights_mem_each (j := i) (t := f.type) (d := (xs[i]'(by omega)).1) (by simp [hi]) (by simp [List.getElem?_eq_getElem (show i < xs.length by omega)]) x hx
theorem Reads.get {fs : Array Field} {i : Nat} {f : Field} (h : cs.length = fs.size ∧ ∀ (i : Nat) (f : Field), fs[i]? = some f → ∃ v, cs[i]? = some v ∧ Reads enc P w f.type [v]) (hi : fs[i]? = some f) : Reads enc P w f.type [cs.getD i undef] := by
  obtain ⟨v, h1, h2⟩ := h.2 i f hi
  rw [List.getD, h1]
  exact h2
end

/-- a list out of its elements by index. -/
theorem list_of {α : Type} (q : Nat → α → Prop) : ∀ n : Nat, (∀ i, i < n → ∃ x, q i x) → ∃ xs : List α, xs.length = n ∧ ∀ i x, xs[i]? = some x → q i x
  | 0, _ => ⟨[], rfl, fun i x h => by cases h⟩
  | n + 1, h => by
    obtain ⟨xs, hl, hx⟩ := list_of q n fun i hi => h i (by omega)
    obtain ⟨y, hy⟩ := h n (by omega)
    refine ⟨xs ++ [y], by simp [hl], fun i x hi => ?_⟩
    rcases Nat.lt_or_ge i n with hlt | hge
    · rw [List.getElem?_append_left (by omega)] at hi
      exact hx i x hi
    · rw [List.getElem?_append_right (by omega)] at hi
      have : i - xs.length = 0 := by
        have := (List.getElem?_eq_some_iff.1 hi).1
        simp at this
        omega
      rw [this] at hi
      cases hi
      obtain rfl : i = n := by omega
      exact hy

/-- the cells of a row of elements of k cells each. -/
theorem rd_rows {α : Type} {w : World} (k : Nat) (cellsX : α → List Value) (hk : ∀ x, (cellsX x).length = k) {b o n : Nat} {xs : List α} (hl : xs.length = n)
    (h : ∀ i x, xs[i]? = some x → ∀ j u, (cellsX x)[j]? = some u → w.cell? ⟨b, o + (i * k + j), none⟩ = some u) : Rd w (some ⟨b, o, none⟩) (n * k) (xs.flatMap cellsX) := by
  have key : ∀ (ys : List α) (q : Nat), (∀ i x, ys[i]? = some x → ∀ j u, (cellsX x)[j]? = some u → w.cell? ⟨b, o + (q * k + (i * k + j)), none⟩ = some u) →
      (ys.flatMap cellsX).length = ys.length * k ∧ ∀ j u, (ys.flatMap cellsX)[j]? = some u → w.cell? ⟨b, o + (q * k + j), none⟩ = some u := by
    intro ys
    induction ys with
    | nil => intro q _; exact ⟨by simp, fun j u hu => by cases hu⟩
    | cons y r ih =>
      intro q hy
      obtain ⟨h1, h2⟩ := ih (q + 1) fun i x hx j u hu => by
        have := hy (i + 1) x hx j u hu
        rw [show q * k + ((i + 1) * k + j) = (q + 1) * k + (i * k + j) by rw [Nat.add_mul, Nat.add_mul]; omega] at this
        exact this
      refine ⟨by rw [List.flatMap_cons, List.length_append, h1, hk, List.length_cons, Nat.add_mul]; omega, fun j u hu => ?_⟩
      rw [List.flatMap_cons] at hu
      rcases Nat.lt_or_ge j k with hlt | hge
      · rw [List.getElem?_append_left (by rw [hk]; exact hlt)] at hu
        have := hy 0 y rfl j u hu
        rw [Nat.zero_mul, Nat.zero_add] at this
        exact this
      · rw [List.getElem?_append_right (by rw [hk]; exact hge), hk] at hu
        have := h2 (j - k) u hu
        rw [show (q + 1) * k + (j - k) = q * k + j by rw [Nat.add_mul]; omega] at this
        exact this
  obtain ⟨h1, h2⟩ := key xs 0 fun i x hx j u hu => by rw [Nat.zero_mul, Nat.zero_add]; exact h i x hx j u hu
  refine ⟨by rw [h1, hl], fun _ => ⟨b, o, rfl, fun j u hu => ?_⟩⟩
  have := h2 j u hu
  rwa [Nat.zero_mul, Nat.zero_add] at this

theorem bytes8 : Tryz.prog.bytesOf 5 = 1 := by kernel_rfl
section
variable {H : Type} {enc : TypeId × Value → H} {w : World} {cs : List Value}
/-- bytes. -/
theorem Reads.bytes (h : Reads enc Tryz.prog w 44 cs) : ∃ (A : Option Addr) (n c : Nat) (l : List UInt8), cs = [.slice A n c] ∧ n ≤ c ∧ c ≤ 9223372036854775807 ∧ n ≤ 140737488351232 ∧ Rd w A n (by8 l) ∧ l.length = n := by
  obtain ⟨A, n, c, rfl, hnc, hcm, hz, hc⟩ := h.slice Tryz.underlying44 cellsB (by omega)
  rw [bytes8, Nat.mul_one] at hz
  rcases Nat.eq_zero_or_pos n with rfl | h0
  · exact ⟨A, 0, c, [], rfl, hnc, hcm, hz, Rd.nil _ _, rfl⟩
  · obtain ⟨b, o, rfl, hel⟩ := hc h0
    obtain ⟨l, hl, hb⟩ := list_of (fun i (x : UInt8) => w.cell? ⟨b, o + i, none⟩ = some (b8 x)) n fun i hi => by
      obtain ⟨cs', _, hcell, hr⟩ := hel i hi
      obtain ⟨x, rfl, hwf⟩ := hr.int Tryz.underlying5
      have := hcell 0 _ rfl
      rw [Nat.mul_one] at this
      exact ⟨byteOf x, by rw [b8_byteOf hwf]; exact this⟩
    refine ⟨_, n, c, l, rfl, hnc, hcm, hz, ⟨by simp [hl], fun _ => ⟨b, o, rfl, fun j u hu => ?_⟩⟩, hl⟩
    rw [by8_get] at hu
    obtain ⟨x, hx, rfl⟩ := Option.map_eq_some_iff.1 hu
    exact hb j x hx
/-- ints. -/
theorem cellsInt : Tryz.prog.cellsOf 3 = 1 := by kernel_rfl
theorem Reads.ints (h : Reads enc Tryz.prog w 43 cs) : ∃ (A : Option Addr) (n c : Nat) (l : List Int), cs = [.slice A n c] ∧ n ≤ c ∧ c ≤ 9223372036854775807 ∧ Rd w A n (l.map (Value.int .i64)) ∧ l.length = n := by
  obtain ⟨A, n, c, rfl, hnc, hcm, hz, hc⟩ := h.slice Tryz.underlying43 cellsInt (by omega)
  rcases Nat.eq_zero_or_pos n with rfl | h0
  · exact ⟨A, 0, c, [], rfl, hnc, hcm, Rd.nil _ _, rfl⟩
  · obtain ⟨b, o, rfl, hel⟩ := hc h0
    obtain ⟨l, hl, hb⟩ := list_of (fun i (x : Int) => w.cell? ⟨b, o + i, none⟩ = some (.int .i64 x)) n fun i hi => by
      obtain ⟨cs', _, hcell, hr⟩ := hel i hi
      obtain ⟨x, rfl, _⟩ := hr.int Tryz.underlying3
      have := hcell 0 _ rfl
      rw [Nat.mul_one] at this
      exact ⟨x, this⟩
    refine ⟨_, n, c, l, rfl, hnc, hcm, ⟨by simp [hl], fun _ => ⟨b, o, rfl, fun j u hu => ?_⟩⟩, hl⟩
    rw [List.getElem?_map] at hu
    obtain ⟨x, hx, rfl⟩ := Option.map_eq_some_iff.1 hu
    exact hb j x hx
end

end Go.Proofs.YtdpjnpjmokncdaaGreatDoor
