/- Arguments opened with the bulk of what they hold, for the statements that are bounded by it. -/
import Derived.Test.YtdpjnpjmokncdaaGreatDoorCards
import Derived.Test.YtdpjnpjmokncdaaGreatDoorB42
namespace Go.Proofs.YtdpjnpjmokncdaaGreatDoor
open Go.ChangeShapes Go.WideShapes Go.ChangeAt Go.RowKit Go.Deep

theorem bulk_pos {H : Type} (d : DataW H) : 1 ≤ Rows.uptoBulk d := by
  cases d with
  | lit l => cases l <;> simp only [Rows.uptoBulk] <;> omega
  | _ => simp only [Rows.uptoBulk] <;> omega
theorem bulkAll_append {H : Type} (l k : List (DataW H)) : Rows.uptoBulkAll (l ++ k) = Rows.uptoBulkAll l + Rows.uptoBulkAll k := by
  induction l with
  | nil => simp [Rows.uptoBulkAll]
  | cons a r ih => rw [List.cons_append, Rows.uptoBulkAll, Rows.uptoBulkAll, ih, Nat.add_assoc]
theorem bulk_in {H : Type} {d : DataW H} : ∀ {l : List (DataW H)}, d ∈ l → Rows.uptoBulk d ≤ Rows.uptoBulkAll l
  | a :: r, h => by
    rw [Rows.uptoBulkAll]
    rcases List.mem_cons.1 h with rfl | h
    · omega
    · have := bulk_in h; omega
def sumN (f : Nat → Nat) : Nat → Nat
  | 0 => 0
  | n + 1 => sumN f n + f n
theorem sumN_ge (f : Nat → Nat) (h : ∀ i, 1 ≤ f i) : ∀ n, n ≤ sumN f n
  | 0 => Nat.le_refl _
  | n + 1 => by have := sumN_ge f h n; have := h n; rw [sumN]; omega
theorem bulk_range {H : Type} (D : Nat → DataW H) : ∀ n, Rows.uptoBulkAll ((List.range n).map D) = sumN (fun i => Rows.uptoBulk (D i)) n
  | 0 => rfl
  | n + 1 => by
    rw [List.range_succ, List.map_append, bulkAll_append, bulk_range D n, sumN, List.map_cons, List.map_nil, Rows.uptoBulkAll, Rows.uptoBulkAll, Nat.add_zero]

def ReadsU {H : Type} (enc : TypeId × Value → H) (w : World) (t : TypeId) (cs : List Value) (B : Nat) : Prop :=
  ∃ (d : DataW H) (p : List MemPlace) (n : Nat), DataW.trod enc Tryz.prog w 0 (fun _ => true) true n t cs = some (d, p) ∧ (∀ x ∈ d.weights Tryz.prog t, x ≤ reachBytes) ∧ Rows.uptoBulk d ≤ B

section
variable {H : Type} {enc : TypeId × Value → H} {w : World} {t : TypeId} {cs : List Value} {B : Nat}
theorem ReadsU.reads (h : ReadsU enc w t cs B) : Reads enc Tryz.prog w t cs := by
  obtain ⟨d, p, n, h1, h2, _⟩ := h
  exact ⟨d, p, n, h1, h2⟩
theorem ReadsU.arg {ts : List TypeId} {ds : List (DataW H)} {j : Nat} {v : Value} {d : DataW H} {p : List MemPlace} (h : DataW.Trod enc Tryz.prog w 0 (fun _ => true) true t v d p) (hz : (DataW.weightsEach Tryz.prog ts ds).all (· ≤ reachBytes) = true)
    (ht : ts[j]? = some t) (hd : ds[j]? = some d) (hb : Rows.uptoBulkAll ds ≤ B) : ReadsU enc w t v.cells.toList B := by
  obtain ⟨fuel, hf⟩ := h
  refine ⟨d, p, fuel, by simpa using hf, fun x hx => ?_, Nat.le_trans (bulk_in (List.mem_of_getElem? hd)) hb⟩
  have := List.all_eq_true.1 hz x (DataW.weights_mem_each ht hd x hx)
  simpa using this
theorem ReadsU.slice {e : TypeId} {k : Nat} (ht : Tryz.prog.underlying t = some (.slice e)) (hk : Tryz.prog.cellsOf e = k) (h0 : 0 < k) (h : ReadsU enc w t cs B) :
    ∃ (A : Option Addr) (n c : Nat), cs = [.slice A n c] ∧ n ≤ c ∧ c ≤ maxLen ∧ n ≤ B ∧
      (0 < n → ∃ b o, A = some ⟨b, o, none⟩ ∧ ∃ Bf : Nat → Nat, (∀ i, 1 ≤ Bf i) ∧ sumN Bf n ≤ B ∧ ∀ i, i < n → ∃ cs', cs'.length = k ∧ (∀ j u, cs'[j]? = some u → w.cell? ⟨b, o + (i * k + j), none⟩ = some u) ∧ ReadsU enc w e cs' (Bf i)) := by
  obtain ⟨d, p, fuel, hf, hw, hB⟩ := h
  rcases open_slice ht hf with ⟨rfl, _⟩ | ⟨a, len, cap, m, n, D, Pl, rfl, _, hl, hm, hmm, hx, hel⟩
  · exact ⟨none, 0, 0, rfl, Nat.le_refl _, by simp, by simp, fun h => absurd h (by omega)⟩
  · cases hx
    simp only [if_true] at hmm
    rw [Rows.uptoBulk, bulk_range] at hB
    have hge := sumN_ge (fun i => Rows.uptoBulk (D i)) (fun i => bulk_pos _) len
    refine ⟨some a, len, cap, rfl, hl, hm, by omega, fun hn => ?_⟩
    obtain ⟨b, o, sp⟩ := a
    obtain ⟨cs0, hc0, _⟩ := hel 0 (by omega)
    obtain ⟨_, hl0, hcell0⟩ := World.cells?_some hc0
    have h1 := hcell0 0 (by omega)
    rw [List.getElem?_eq_getElem (by omega), add_add] at h1
    have h2 := spot_none h1
    have h3 : sp = none := by simpa [Addr.add] using h2
    subst h3
    refine ⟨b, o, rfl, fun i => Rows.uptoBulk (D i), fun i => bulk_pos _, by omega, fun i hi => ?_⟩
    obtain ⟨cs', hc, hr⟩ := hel i (by omega)
    obtain ⟨_, hl', hcell⟩ := World.cells?_some hc
    refine ⟨cs', by omega, fun j u hu => ?_, D i, Pl i, n, hr, fun x hx => hw x ?_, Nat.le_refl _⟩
    · have hj := (List.getElem?_eq_some_iff.1 hu).1
      have := hcell j (by omega)
      rw [add_add, hu, hk] at this
      have h4 : (⟨b, o, none⟩ : Addr).add (i * k + j) = ⟨b, o + (i * k + j), none⟩ := by unfold Addr.add; split <;> simp_all
      rw [h4] at this
      exact this
    · simp only [DataW.weights, ht, List.mem_cons, List.mem_append]
      exact .inr (.inl (weightsAll_in (List.mem_map.2 ⟨i, List.mem_range.2 hi, rfl⟩) x hx))
theorem ReadsU.struct {fs : Array Field} (hs : Tryz.prog.underlying t = some (.struct fs)) (hone : ∀ (i : Nat) (f : Field), fs[i]? = some f → f.offset = i ∧ Tryz.prog.cellsOf f.type = 1) (hC : Tryz.prog.cellsOf t = fs.size) (h : ReadsU enc w t cs B) :
    cs.length = fs.size ∧ ∀ (i : Nat) (f : Field), fs[i]? = some f → ∃ v, cs[i]? = some v ∧ ReadsU enc w f.type [v] B := by
  obtain ⟨d, p, fuel, hf, hw, hB⟩ := h
  obtain ⟨xs, n, _, hx, hlen, hxl, hfs⟩ := DataW.trod_struct hs hf
  cases hx
  refine ⟨by omega, fun i f hi => ?_⟩
  have hlt : i < fs.size := (Array.getElem?_eq_some_iff.1 hi).1
  obtain ⟨ho, hc1⟩ := hone i f hi
  have g := hfs i f hi
  rw [ho, hc1, take1_drop cs i undef (by omega), List.getElem?_eq_getElem (by omega)] at g
  have hv : cs[i]? = some (cs.getD i undef) := by simp [List.getD, List.getElem?_eq_getElem (show i < cs.length by omega)]
  refine ⟨_, hv, (xs[i]'(by omega)).1, (xs[i]'(by omega)).2, n, g, fun x hx => hw x ?_, ?_⟩
  · simp only [DataW.weights, hs]
    exact DataW.weights_mem_each (j := i) (t := f.type) (d := (xs[i]'(by omega)).1) (by simp [hi]) (by simp [List.getElem?_eq_getElem (show i < xs.length by omega)]) x hx
  · rw [Rows.uptoBulk] at hB
    have := bulk_in (d := (xs[i]'(by omega)).1) (l := xs.map (·.1)) (List.mem_map.2 ⟨xs[i]'(by omega), List.getElem_mem _, rfl⟩)
    omega

set_option maxRecDepth 100000 in
theorem open_fileU (h : ReadsU enc w 67 cs B) : ∃ x : Fw, cs = x.cells ∧ Rd w x.A x.bytes.length (by8 x.bytes) ∧ x.name.size ≤ 140737488351232 ∧ x.bytes.length ≤ B := by
  obtain ⟨x, hx, h1, h2, _⟩ := open_file h.reads
  refine ⟨x, hx, h1, h2, ?_⟩
  obtain ⟨hl, hf⟩ := h.struct Tryz.underlying67 (hone_of (by kernel_rfl)) (by kernel_rfl)
  obtain ⟨v2, e2, r2⟩ := hf 2 _ rfl
  obtain ⟨A, n, c, hc, _, _, hn, _⟩ := r2.slice Tryz.underlying44 cellsB (by omega)
  rw [hx] at e2
  cases hc
  simp only [Fw.cells, List.getElem?_cons_succ, List.getElem?_cons_zero, Option.some.injEq, Value.slice.injEq] at e2
  rw [e2.2.1]
  exact hn
theorem costW_take (fs : List Fw) (Bf : Nat → Nat) (h : ∀ i x, fs[i]? = some x → x.bytes.length ≤ Bf i) (h1 : ∀ i, 1 ≤ Bf i) : ∀ k, k ≤ fs.length → costW (fs.take k) ≤ 117 * (sumN Bf k : Int)
  | 0, _ => by simp [costW, sumN]
  | k + 1, hk => by
    have ih := costW_take fs Bf h h1 k (by omega)
    have hx : fs[k]? = some fs[k] := List.getElem?_eq_getElem (by omega)
    rw [List.take_add_one, hx, costW_append]
    have h2 := h k _ hx
    have h3 := h1 k
    simp only [Option.toList_some, costW, sumN]
    push_cast
    omega
theorem open_filesU (h : ReadsU enc w 50 cs B) : ∃ (A : Option Addr) (n c : Nat) (fs : List Fw), cs = [.slice A n c] ∧ n ≤ B ∧ Rd w A (n * 3) (flatW fs) ∧ (∀ x ∈ fs, Rd w x.A x.bytes.length (by8 x.bytes) ∧ x.name.size ≤ 140737488351232) ∧ costW fs ≤ 117 * (B : Int) := by
  obtain ⟨A, n, c, rfl, hnc, hcm, hnB, hc⟩ := h.slice Tryz.underlying50 cellsF (by omega)
  rcases Nat.eq_zero_or_pos n with rfl | h0
  · exact ⟨A, 0, c, [], rfl, by omega, Rd.nil _ _, by simp, by simp [costW]; omega⟩
  · obtain ⟨b, o, rfl, Bf, hB1, hBs, hel⟩ := hc h0
    obtain ⟨fs, hl, hq⟩ := list_of (fun i (x : Fw) => (∀ j u, (Fw.cells x)[j]? = some u → w.cell? ⟨b, o + (i * 3 + j), none⟩ = some u) ∧ Rd w x.A x.bytes.length (by8 x.bytes) ∧ x.name.size ≤ 140737488351232 ∧ x.bytes.length ≤ Bf i) n fun i hi => by
      obtain ⟨cs', _, hcell, hr⟩ := hel i hi
      obtain ⟨x, rfl, h1, h2, h3⟩ := open_fileU hr
      exact ⟨x, hcell, h1, h2, h3⟩
    refine ⟨_, n, c, fs, rfl, hnB, ?_, fun x hx => ?_, ?_⟩
    · rw [flatW_is']
      exact rd_rows 3 Fw.cells (fun _ => rfl) hl fun i x hx => (hq i x hx).1
    · obtain ⟨i, hi⟩ := List.mem_iff_getElem?.1 hx
      exact ⟨(hq i x hi).2.1, (hq i x hi).2.2.1⟩
    · have := costW_take fs Bf (fun i x hx => (hq i x hx).2.2.2) hB1 n (by omega)
      rw [List.take_of_length_le (by omega)] at this
      omega
end

end Go.Proofs.YtdpjnpjmokncdaaGreatDoor
