/- append of one Meta in a drawn region; bytes.Equal; the plain steps of edit.Decode. -/
import Derived.Test.YtdpjnpjmokncdaaGreatDoorB29
import Derived.Test.YtdpjnpjmokncdaaGreatDoorB12
namespace Go.Proofs.YtdpjnpjmokncdaaGreatDoor
open Go.RowKit

section
variable {P : Program} (w : World)
/-- append of one Meta (five cells) onto a row of the call's own. -/
theorem run_app5 (base : Nat) (t ty e : TypeId) (i : TypeInfo) (z : Value) (bytes : Nat) (ht : P.underlying t = some (.slice e)) (hi : P.info? e = some i) (hz : i.zero = some z)
    (hsize : i.size = 5) (hby : i.bytes = bytes) (hzs : z.cells.size = 5)
    (v : Value) (n : Nat) (xs : List Value) (hown : w.ownsRow base e 5 v n xs)
    (b c : Nat) (news : List Value) (hr : Rd w (some ⟨b, 0, none⟩) (1 * 5) news) (h1 : ∀ u ∈ news, u.oneCell' = true)
    (h63 : n + 1 ≤ maxLen) (hbytes : (n + 1) * bytes ≤ 140737488355328) (hbase : base ≤ w.heap.size) :
    ∃ v' w', (Builtin.append_ #[t, t] ty #[v, .slice (some ⟨b, 0, none⟩) 1 c]).run P w = .ok v' w' ∧ w'.ownsRow base e 5 v' (n + 1) (xs ++ news) ∧ w.grownBy w' v.ownBlock ∧
      (v'.ownBlock = v.ownBlock ∨ v'.ownBlock = some w.heap.size) := by
  have hcells : ∀ j u, news[j]? = some u → w.cell? ((⟨b, 0, none⟩ : Addr).add j) = some u := by
    intro j u hu
    obtain ⟨b', o, h, hc⟩ := hr.2 (by omega)
    injection h with h
    injection h with h1 h2 _
    subst h1
    subst h2
    have := hc j u hu
    unfold Addr.add
    split
    · rename_i e; subst e; simpa using this
    · simpa using this
  obtain ⟨v', w', hrun, h2, h3, _, h5⟩ := run_append_own_at (P := P) w base t ty e i z 5 bytes ht hi hz hsize hby hzs (by omega) v n xs hown ⟨b, 0, none⟩ 1 c news (by rw [hr.1]) hcells h1 h63 hbytes hbase
  exact ⟨v', w', hrun, h2, h3, h5⟩
end

theorem Rd.of_own5 {w : World} {A : Option Addr} {n base : Nat} {e : TypeId} {c : Nat} {vs : List Value} (h : w.ownsRow base e 5 (.slice A n c) n vs) : Rd w A (n * 5) vs := by
  obtain ⟨hl, hr⟩ := h
  refine ⟨by omega, fun hn => ?_⟩
  rcases hr with ⟨hv, h0⟩ | ⟨g, cap, cur, hv, hg, hh, hnc, hcm, hsz, ht⟩
  · omega
  · injection hv with hA _ _
    subst hA
    refine ⟨g, 0, rfl, fun j u hu => ?_⟩
    rw [Nat.zero_add, cell_of_row w g j cur e (0, 0) hh]
    rw [← ht, List.getElem?_take] at hu
    split at hu
    · simpa using hu
    · cases hu
theorem rowM : ∃ i z, Tryz.prog.info? 95 = some i ∧ i.zero = some z ∧ i.size = 5 ∧ i.bytes = 72 ∧ z.cells.size = 5 := by
  obtain ⟨i, hi, h1, h2, h3⟩ := info_parts (P := Tryz.prog) (e := 95) (z := .agg #[.int .i64 0, .int .i64 0, .int .i64 0, .slice none 0 0, .slice none 0 0]) (size := 5) (bytes := 72) (by kernel_rfl)
  exact ⟨i, _, hi, h1, h2, h3, rfl⟩
theorem mw_one (x : Mw) : ∀ u ∈ x.cells, u.oneCell' = true := by
  intro u hu
  simp only [Mw.cells, List.mem_cons, List.not_mem_nil, or_false] at hu
  rcases hu with rfl | rfl | rfl | rfl | rfl <;> rfl
theorem one_meta (w : World) (t : TypeId) (x : Mw) : Rd (w.alloc (.cells #[.int .i64 x.m.num, .int .i64 x.m.level, .int .i64 x.m.count, .slice x.A x.m.first.length x.ca, .slice x.B x.m.last.length x.cb] t)) (some ⟨w.heap.size, 0, none⟩) (1 * 5) x.cells := by
  refine ⟨rfl, fun _ => ⟨w.heap.size, 0, rfl, fun j u hu => ?_⟩⟩
  rw [Nat.zero_add, cell_of_row _ _ j _ t (0, 0) (heap_alloc_new w _)]
  match j, hu with
  | 0, hu => exact hu
  | 1, hu => exact hu
  | 2, hu => exact hu
  | 3, hu => exact hu
  | 4, hu => exact hu
theorem step_appM (w : World) {ops : Array Oper} {o : Oper} {a : Act} {K : Act → World → Prop} {Q : Exit → Act → World → Prop} {Z : Prop} (hgd : o.guard = none) (s x : Operand)
    (ho : o.op = .call { callee := .builtin .append, args := #[s, x], argTypes := #[32, 32] })
    (base : Nat) (v : Value) (n : Nat) (xs : List Mw) (hs : a.eval s = v) (hown : w.ownsRow base 95 5 v n (xs.flatMap Mw.cells))
    (b c : Nat) (m : Mw) (hx : a.eval x = .slice (some ⟨b, 0, none⟩) 1 c) (hr : Rd w (some ⟨b, 0, none⟩) (1 * 5) m.cells)
    (h63 : n + 1 ≤ 1000000000) (hbase : base ≤ w.heap.size)
    (h : ∀ A' c' w', n + 1 ≤ c' → c' ≤ 9223372036854775807 → w'.ownsRow base 95 5 (.slice A' (n + 1) c') (n + 1) ((xs ++ [m]).flatMap Mw.cells) → w.grownBy w' v.ownBlock → (blkOf A' = v.ownBlock ∨ blkOf A' = some w.heap.size) → K (a.put o.dst (.slice A' (n + 1) c')) w') : if Region.wanted o (yielded ops a.tmps) = true then Oper.wp Tryz.prog o a w K Q else Z := by
  obtain ⟨i, z, hi, hz, hs1, hb, hzs⟩ := rowM
  have hw : Region.wanted o (yielded ops a.tmps) = true := by simp [Region.wanted, hgd]
  rw [if_pos hw]
  obtain ⟨v', w', hrun, h2, h3, h4⟩ := run_app5 (P := Tryz.prog) w base 32 o.type 95 i z 72 Tryz.underlying32 hi hz hs1 hb hzs v n (xs.flatMap Mw.cells) hown b c m.cells hr (mw_one _) (by simp only [maxLen]; omega) (by omega) hbase
  obtain ⟨A', c', rfl, hc, hcm⟩ := own_slice h2
  unfold Oper.wp execOp
  simp only [ho, resolve, invoke, builtin, Sem.run_bind, Sem.run_pure, Result.andThen_ok, List.map_toArray, List.map_cons, List.map_nil, hs, hx, hrun]
  have hfm : (xs ++ [m]).flatMap Mw.cells = xs.flatMap Mw.cells ++ m.cells := by simp
  rw [← hfm] at h2
  exact h A' c' w' hc (by have : maxLen = 9223372036854775807 := rfl; omega) h2 h3 (by cases A' <;> exact h4)

set_option maxRecDepth 100000 in
/-- bytes.Equal of two slices that read. -/
theorem equal_any (A B : Option Addr) (n c m d : Nat) (l k : List UInt8) (w : World) (h1 : Rd w A n (by8 l)) (h2 : Rd w B m (by8 k)) :
    Calls Tryz.prog 87 #[.slice A n c, .slice B m d] w fun e w' => e = .returned (.bool (decide (l = k))) ∧ w' = w := by
  have e1 := conv_str w 44 9 5 A n c l Tryz.underlying44 Tryz.underlying5 Tryz.underlying9 h1
  have e2 := conv_str w 44 9 5 B m d k Tryz.underlying44 Tryz.underlying5 Tryz.underlying9 h2
  clear h1 h2
  by_cases he : l = k
  · subst he
    rw [decide_eq_true rfl]
    go_enter Tryz.func87, Tryz.ntmps87
    go_wp2
    go_ret
    exact ⟨by first | rfl | simp, rfl⟩
  · have hs2 : (l == k) = false := beq_eq_false_iff_ne.2 he
    rw [decide_eq_false he]
    clear he
    go_enter Tryz.func87, Tryz.ntmps87
    go_wp2
    go_ret
    exact ⟨by first | rfl | simp [hs2], rfl⟩

/-- a Meta in memory that S leaves alone. -/
structure MwO (w : World) (S : Nat → Prop) (x : Mw) : Prop where
  a : RdO w S x.A x.m.first.length (by8 x.m.first)
  b : RdO w S x.B x.m.last.length (by8 x.m.last)
  a1 : x.m.first.length ≤ x.ca ∧ x.ca ≤ 9223372036854775807
  b1 : x.m.last.length ≤ x.cb ∧ x.cb ≤ 9223372036854775807
theorem MwO.next {F F' : Nat → Prop} {w w' : World} {x : Mw} (h : MwO w F x) (hm : Mod F w w') (hF : ∀ k, F' k → F k ∨ w.heap.size ≤ k) : MwO w' F' x :=
  ⟨h.a.next hm hF, h.b.next hm hF, h.a1, h.b1⟩
theorem MwO.ok {F : Nat → Prop} {w : World} {x : Mw} (h : MwO w F x) : MwOk w x := ⟨h.a.1, h.b.1, h.a1, h.b1⟩

theorem numP_bd (s : Rs) : 0 ≤ (numP s).1 ∧ (numP s).1 ≤ 4611686018427387903 := by
  unfold numP
  cases h : takeNum s.b with
  | none => simp
  | some p =>
    obtain ⟨m, r⟩ := p
    have := (takeNum_spec h).2
    simp only
    omega
theorem textP_bd (s : Rs) : (textP s).1.length ≤ 64 := by
  unfold textP
  cases h : takeText s.b 64 with
  | none => simp
  | some p =>
    obtain ⟨m, r⟩ := p
    have := (takeText_len h).2
    simp only
    omega

end Go.Proofs.YtdpjnpjmokncdaaGreatDoor
