/- code.PutText. -/
import Derived.Test.YtgnpmmhpeianpaaGreatDoorB06
import Derived.Lib.AppendStr
import Derived.Test.YtgnpmmhpeianpaaGreatDoorB01
namespace Go.Proofs.YtgnpmmhpeianpaaGreatDoor
open Go.RowKit

theorem strCells_by8 (s : ByteArray) : Lib.strCells s = by8 s.data.toList := by
  unfold Lib.strCells by8
  simp [b8]
theorem rd_new (w : World) (t : TypeId) (vs : List Value) : Rd (w.alloc (.cells vs.toArray t)) (some ⟨w.heap.size, 0, none⟩) vs.length vs := by
  refine ⟨rfl, fun _ => ⟨w.heap.size, 0, rfl, fun j u hu => ?_⟩⟩
  rw [Nat.zero_add]
  have := (Blk.new w t vs.toArray).cell j
  rw [this]
  simpa using hu

set_option maxRecDepth 100000 in
set_option maxHeartbeats 400000 in
/-- 'laid(b, s)' at a text. -/
theorem laidS_any (A : Option Addr) (n c : Nat) (l : List UInt8) (s : ByteArray) (w : World) (h : Rd w A n (by8 l)) (hn : n + s.size ≤ 140737488355328) :
    Calls Tryz.prog 54 #[.slice A n c, .string s] w fun e w' => ∃ A' c', e = .returned (.slice A' (n + s.size) c') ∧ w'.ownsRow w.heap.size 5 1 (.slice A' (n + s.size) c') (n + s.size) (by8 (l ++ s.data.toList)) ∧ n + s.size ≤ c' ∧ c' ≤ 9223372036854775807 ∧ Below w.heap.size w w' := by
  obtain ⟨i, hi, hz, h1, h2⟩ := bt.info
  have hmx : maxLen = 9223372036854775807 := rfl
  go_enter Tryz.func54, Tryz.ntmps54
  go_wp2_with (first
    | (go_at_call 93; refine (clone_any A n c l _ h (by omega)).mono ?_; rintro e w1 ⟨A1, c1, rfl, ho1, hb1⟩)
    | (at_builtin; refine Lib.wpList_append_own_string _ rfl (.tmp 6) (.tmp 7) 27 9 rfl w.heap.size 5 i Tryz.underlying27 Tryz.underlying9 hi hz h1 h2 (.slice A1 n c1) n (by8 l) rfl ho1 s rfl (by omega) (by omega) hb1.size ?_; intro v' w' hown' hg' hnil'))
  obtain ⟨A', c', rfl, hc1, hc2⟩ := own_slice hown'
  go_ret
  rw [strCells_by8, ← by8_append] at hown'
  exact ⟨A', c', rfl, hown', hc1, by omega, hb1.grown hg' hb1.size (fun j hj => (ho1.lt j hj).1)⟩

set_option maxRecDepth 100000 in
set_option maxHeartbeats 400000 in
theorem putText_any (A : Option Addr) (n c : Nat) (l : List UInt8) (s : ByteArray) (w : World) (h : Rd w A n (by8 l)) (hn : n + s.size ≤ 140737488351232) :
    Calls Tryz.prog 26 #[.slice A n c, .string s] w fun e w' => ∃ A' n' c', e = .returned (.slice A' n' c') ∧ n' = (l ++ textB s.data.toList).length ∧ Rd w' A' n' (by8 (l ++ textB s.data.toList)) ∧ n' ≤ c' ∧ c' ≤ 9223372036854775807 ∧ Mod Non w w' := by
  have hll : l.length = n := by simpa using h.1
  have hsz : s.data.toList.length = s.size := Array.length_toList
  have h9 := nB_len (s.size : Int)
  obtain ⟨R, hR⟩ : ∃ R, l ++ textB s.data.toList = R := ⟨_, rfl⟩
  have hRe : (l ++ nB (s.size : Int)) ++ s.data.toList = R := by rw [← hR]; unfold textB; rw [hsz, List.append_assoc]
  have hRl : n + (nB (s.size : Int)).length + s.size = R.length := by rw [← hRe]; simp [hll]; omega
  rw [hR]
  have hpn := putNum_any A n c l (s.size : Int) w h (by omega)
  obtain ⟨L, hL⟩ : ∃ L, nB (s.size : Int) = L := ⟨_, rfl⟩
  have hL2 : numB (clampN (s.size : Int)) = L := hL
  rw [hL2] at hpn
  rw [hL] at h9 hRe hRl
  have HPN := Lib.hid hpn
  have HRE := Lib.hid hRe
  have HRL := Lib.hid hRl
  clear hpn hL hL2 hR hRe hRl hsz h hll
  go_enter Tryz.func26, Tryz.ntmps26
  go_wp2_with fail
  refine HPN.out.mono ?_
  rintro e w1 ⟨A1, c1, rfl, ho1, hb1⟩
  have hr1 := Rd.of_own ho1
  have HR1 := Lib.hid hr1
  have HM1 := Lib.hid (Mod.of_below (S := Non) hb1)
  clear hr1 ho1 hb1
  go_wp2_with fail
  refine (laidS_any A1 (n + L.length) c1 (l ++ L) s _ HR1.out (by omega)).mono ?_
  rintro e w2 ⟨A2, c2, rfl, ho2, hc1, hc2, hb2⟩
  have hr2 := Rd.of_own ho2
  have HR2 := Lib.hid hr2
  have HM2 := Lib.hid (HM1.out.trans0 (Mod.of_below (S := Non) hb2))
  clear hr2 ho2 hb2
  go_wp2_with fail
  go_ret
  refine ⟨A2, n + L.length + s.size, c2, rfl, HRL.out, ?_, hc1, hc2, HM2.out⟩
  have := HR2.out
  rwa [HRE.out] at this

end Go.Proofs.YtgnpmmhpeianpaaGreatDoor

/- append of a text's bytes onto a row of the call's own, and where the answer lies. -/
namespace Go.Proofs.YtgnpmmhpeianpaaGreatDoor
open Go.RowKit

section
variable {P : Program} (w : World)
theorem run_appS (base : Nat) (t u ty e : TypeId) (i : TypeInfo) (ht : P.underlying t = some (.slice e)) (hu : P.underlying u = some .string) (hi : P.info? e = some i) (hz : i.zero = some (.int .u8 0))
    (hsize : i.size = 1) (hby : i.bytes = 1)
    (v : Value) (n : Nat) (xs : List Value) (hown : w.ownsRow base e 1 v n xs) (s : ByteArray)
    (h63 : n + s.size ≤ maxLen) (hbytes : n + s.size ≤ 140737488355328) (hbase : base ≤ w.heap.size) :
    ∃ v' w', (Builtin.append_ #[t, u] ty #[v, .string s]).run P w = .ok v' w' ∧ w'.ownsRow base e 1 v' (n + s.size) (xs ++ Lib.strCells s) ∧ w.grownBy w' v.ownBlock ∧
      (v'.ownBlock = v.ownBlock ∨ v'.ownBlock = some w.heap.size) := by
  have hm9 : n + s.size ≤ 9223372036854775807 := by simp only [maxLen] at h63; omega
  have hxl : xs.length = n := by simpa using hown.1
  obtain ⟨v', w', h1, h2, h3, h4⟩ := Lib.run_append_own_string (P := P) w base t u ty e i ht hu hi hz hsize hby v n xs hown s h63 hbytes hbase
  refine ⟨v', w', h1, h2, h3, ?_⟩
  rcases hown.2 with ⟨rfl, rfl⟩ | ⟨g, cap, cur, rfl, hbg, hg, hnc, hcm, hcs, htake⟩
  · by_cases hm : s.size = 0
    · rw [h4.2 ⟨rfl, hm⟩]
      exact .inl rfl
    · have hr := run_append_nil_string (P := P) w t u ty e i (.int .u8 0) ht hu hi hz s (by omega) (by omega) (by rw [hby]; omega)
      rw [h1] at hr
      injection hr with hv _
      rw [hv]
      exact .inr rfl
  · by_cases hroom : n + s.size ≤ cap
    · have hcs' : cur.size = cap := by simpa using hcs
      have hr := Lib.run_append_room_string (P := P) w t u ty e i ht hu hi hsize g n cap cur hg s hroom (by omega)
      rw [h1] at hr
      injection hr with hv _
      rw [hv]
      exact .inl rfl
    · have holds : ∀ j u, xs[j]? = some u → w.cell? ((⟨g, 0, none⟩ : Addr).add j) = some u := hown.cells (g := g) rfl
      have hr := Lib.run_append_grow_string (P := P) w t u ty e i (.int .u8 0) ht hu hi hz ⟨g, 0, none⟩ n cap xs (by rw [hsize]; simpa using hxl) holds s (by omega) (by omega) (by rw [hby]; exact growslice_fits (by omega) (by omega))
      rw [h1] at hr
      injection hr with hv _
      rw [hv]
      exact .inr rfl

/-- 'append(v, s...)', s a text, in a plain region. -/
theorem wpList_appS {t u e : TypeId} (T : ByteT P t e) (hu : P.underlying u = some .string) {ops : Array Oper} {rest : List Oper} {o : Oper} {a : Act} {Q : Exit → Act → World → Prop} (hgd : o.guard = none) (s x : Operand)
    (ho : o.op = .call { callee := .builtin .append, args := #[s, x], argTypes := #[t, u] })
    (base : Nat) (v : Value) (n : Nat) (xs : List UInt8) (hs : a.eval s = v) (hown : w.ownsRow base e 1 v n (by8 xs)) (b : ByteArray) (hx : a.eval x = .string b)
    (k : Nat) (hk : n + b.size = k) (ys : List UInt8) (hy : xs ++ b.data.toList = ys) (h63 : k ≤ 140737488355328) (hbase : base ≤ w.heap.size)
    (h : ∀ A' c' w', k ≤ c' → c' ≤ 9223372036854775807 → w'.ownsRow base e 1 (.slice A' k c') k (by8 ys) → w.grownBy w' v.ownBlock → (blkOf A' = v.ownBlock ∨ blkOf A' = some w.heap.size) → wpList P ops Q rest (a.put o.dst (.slice A' k c')) w') : wpList P ops Q (o :: rest) a w := by
  obtain ⟨i, hi, hz, hs1, hb⟩ := T.info
  subst hk
  subst hy
  refine wpList_plain hgd fun K hK => ?_
  obtain ⟨v', w', hrun, h2, h3, h4⟩ := run_appS (P := P) w base t u o.type e i T.sl hu hi hz hs1 hb v n (by8 xs) hown b (by simp only [maxLen]; omega) h63 hbase
  obtain ⟨A', c', rfl, hc, hc'⟩ := own_slice h2
  rw [strCells_by8, ← by8_append] at h2
  unfold Oper.wp execOp
  simp only [ho, resolve, invoke, builtin, Sem.run_bind, Sem.run_pure, Result.andThen_ok, List.map_toArray, List.map_cons, List.map_nil, hs, hx, hrun]
  exact hK _ _ (h A' c' w' hc (by simp only [maxLen] at hc'; omega) h2 h3 (by cases A' <;> exact h4))
end

/-- texts one behind the other. -/
def catS : List ByteArray → List UInt8
  | [] => []
  | s :: r => s.data.toList ++ catS r
theorem catS_append (l k : List ByteArray) : catS (l ++ k) = catS l ++ catS k := by
  induction l with
  | nil => rfl
  | cons s r ih => simp [catS, ih]
theorem catS_snoc (l : List ByteArray) (s : ByteArray) : catS (l ++ [s]) = catS l ++ s.data.toList := by rw [catS_append]; simp [catS]

end Go.Proofs.YtgnpmmhpeianpaaGreatDoor
