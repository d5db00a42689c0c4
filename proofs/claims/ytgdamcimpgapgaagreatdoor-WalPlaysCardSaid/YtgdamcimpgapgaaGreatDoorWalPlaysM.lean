/- Proved: for every input the law WalPlays of package sawyerlaw05 returns true and never panics, and its arguments read behind the call as they read before (the tied card WalPlaysCardSaid). Its conditions: the package variables deBruijn32tab and deBruijn64tab of math/bits, uint64pow10 of internal/strconv and the two error variables of strconv hold what their own initialisers lay (the card ties this to the text of the program); none else. -/
import Derived.Test.YtgdamcimpgapgaaGreatDoorCards
import Derived.Test.YtgdamcimpgapgaaGreatDoorTie
import Derived.Test.YtgdamcimpgapgaaGreatDoorM08
import Derived.Test.YtgdamcimpgapgaaGreatDoorM09
import Derived.Test.YtgdamcimpgapgaaGreatDoorM41
import Derived.LaidLaws
namespace Go.Proofs.YtgdamcimpgapgaaGreatDoor.walPlays
open Go.ChangeShapes Go.WideShapes Go.ChangeAt Go.RowKit Go.Deep

theorem own : ownKnob Tryz.prog.godebug = none := by kernel_rfl

section
variable {H : Type} {enc : TypeId × Value → H} {w : World} {cs : List Value}
set_option maxRecDepth 100000 in
/-- a file. -/
theorem open_file (h : Reads enc Tryz.prog w 44 cs) : ∃ x : Fw, cs = x.cells ∧ Rd w x.A x.bytes.length (by8 x.bytes) ∧ x.name.size ≤ 140737488351232 ∧ x.bytes.length ≤ 140737488351232 := by
  obtain ⟨hl, hf⟩ := h.struct Tryz.underlying44 (hone_of (by kernel_rfl)) (by kernel_rfl)
  obtain ⟨v0, e0, r0⟩ := hf 0 _ rfl
  obtain ⟨v1, e1, r1⟩ := hf 1 _ rfl
  obtain ⟨v2, e2, r2⟩ := hf 2 _ rfl
  obtain ⟨s, hs, hsz⟩ := r0.string Tryz.underlying9
  obtain ⟨n, hn, _⟩ := r1.int Tryz.underlying3
  obtain ⟨A, m, c, l, hb, _, _, hm, hrd, hlen⟩ := r2.bytes
  cases hs; cases hn; cases hb
  refine ⟨⟨s, n, l, A, c⟩, ?_, by rw [hlen]; exact hrd, hsz, by rw [hlen]; exact hm⟩
  match cs, hl with
  | [a, b, c'], _ =>
    simp only [List.getElem?_cons_zero, List.getElem?_cons_succ, Option.some.injEq] at e0 e1 e2
    rw [e0, e1, e2, ← hlen]
    rfl
theorem cellsF : Tryz.prog.cellsOf 44 = 3 := by kernel_rfl
theorem open_files (h : Reads enc Tryz.prog w 41 cs) : ∃ (A : Option Addr) (n c : Nat) (fs : List Fw), cs = [.slice A n c] ∧ n ≤ 9223372036854775807 ∧ Rd w A (n * 3) (flatW fs) ∧ ∀ x ∈ fs, Rd w x.A x.bytes.length (by8 x.bytes) ∧ x.name.size ≤ 140737488351232 ∧ x.bytes.length ≤ 140737488351232 := by
  obtain ⟨A, n, c, rfl, hnc, hcm, _, hc⟩ := h.slice Tryz.underlying41 cellsF (by omega)
  have hmx : maxLen = 9223372036854775807 := rfl
  rcases Nat.eq_zero_or_pos n with rfl | h0
  · exact ⟨A, 0, c, [], rfl, by omega, Rd.nil _ _, by simp⟩
  · obtain ⟨b, o, rfl, hel⟩ := hc h0
    obtain ⟨fs, hl, hq⟩ := list_of (fun i (x : Fw) => (∀ j u, (Fw.cells x)[j]? = some u → w.cell? ⟨b, o + (i * 3 + j), none⟩ = some u) ∧ Rd w x.A x.bytes.length (by8 x.bytes) ∧ x.name.size ≤ 140737488351232 ∧ x.bytes.length ≤ 140737488351232) n fun i hi => by
      obtain ⟨cs', _, hcell, hr⟩ := hel i hi
      obtain ⟨x, rfl, h1, h2, h3⟩ := open_file hr
      exact ⟨x, hcell, h1, h2, h3⟩
    refine ⟨_, n, c, fs, rfl, by omega, ?_, fun x hx => ?_⟩
    · rw [flatW_is]
      exact rd_rows 3 Fw.cells (fun _ => rfl) hl fun i x hx => (hq i x hx).1
    · obtain ⟨i, hi⟩ := List.mem_iff_getElem?.1 hx
      exact (hq i x hi).2
theorem blk_old {A : Option Addr} {n : Nat} {vs : List Value} (h : Rd w A n vs) (h0 : 0 < n) : ∀ k, blkOf A = some k → k < w.heap.size := fun k hk => by
  obtain ⟨b, hb, hl⟩ := h.lt h0
  rw [hb] at hk
  cases hk
  exact hl
set_option maxRecDepth 100000 in
/-- an operation. -/
theorem open_op (h : Reads enc Tryz.prog w 50 cs) : ∃ x : Ow, cs = x.cells ∧ OwOk w w.heap.size x := by
  obtain ⟨hl, hf⟩ := h.struct Tryz.underlying50 (hone_of (by kernel_rfl)) (by kernel_rfl)
  obtain ⟨v0, e0, r0⟩ := hf 0 _ rfl
  obtain ⟨v1, e1, r1⟩ := hf 1 _ rfl
  obtain ⟨v2, e2, r2⟩ := hf 2 _ rfl
  obtain ⟨v3, e3, r3⟩ := hf 3 _ rfl
  obtain ⟨v4, e4, r4⟩ := hf 4 _ rfl
  obtain ⟨i0, h0, _⟩ := r0.int Tryz.underlying3
  obtain ⟨i1, h1, _⟩ := r1.int Tryz.underlying3
  obtain ⟨i2, h2, hw2⟩ := r2.int Tryz.underlying3
  obtain ⟨B, m, c, l, h3, _, _, hm, hrd, hlen⟩ := r3.bytes
  obtain ⟨Q, q, cq, picks, h4, hq1, hq2, hrq, _⟩ := r4.ints
  cases h0; cases h1; cases h2; cases h3; cases h4
  have hat : i2 ≤ 9223372036854775807 := by
    simp only [Lit.wf, Bool.and_eq_true, decide_eq_true_eq] at hw2
    have : IntKind.i64.max = 9223372036854775807 := rfl
    omega
  refine ⟨⟨i0, i1, i2, B, m, c, l, Q, q, cq, picks⟩, ?_, ⟨⟨hrd, blk_old hrd, hrq, blk_old hrq⟩, hm, by show q ≤ _; omega, hat⟩⟩
  match cs, hl with
  | [a0, a1, a2, a3, a4], _ =>
    simp only [List.getElem?_cons_zero, List.getElem?_cons_succ, Option.some.injEq] at e0 e1 e2 e3 e4
    rw [e0, e1, e2, e3, e4]
    rfl
theorem cellsO : Tryz.prog.cellsOf 50 = 5 := by kernel_rfl
theorem open_ops (h : Reads enc Tryz.prog w 42 cs) : ∃ (A : Option Addr) (n c : Nat) (xs : List Ow), cs = [.slice A n c] ∧ n ≤ 9223372036854775807 ∧ Rd w A (n * 5) (xs.flatMap Ow.cells) ∧ ∀ x ∈ xs, OwOk w w.heap.size x := by
  obtain ⟨A, n, c, rfl, hnc, hcm, _, hc⟩ := h.slice Tryz.underlying42 cellsO (by omega)
  have hmx : maxLen = 9223372036854775807 := rfl
  rcases Nat.eq_zero_or_pos n with rfl | h0
  · exact ⟨A, 0, c, [], rfl, by omega, Rd.nil _ _, by simp⟩
  · obtain ⟨b, o, rfl, hel⟩ := hc h0
    obtain ⟨xs, hl, hq⟩ := list_of (fun i (x : Ow) => (∀ j u, (Ow.cells x)[j]? = some u → w.cell? ⟨b, o + (i * 5 + j), none⟩ = some u) ∧ OwOk w w.heap.size x) n fun i hi => by
      obtain ⟨cs', _, hcell, hr⟩ := hel i hi
      obtain ⟨x, rfl, h1⟩ := open_op hr
      exact ⟨x, hcell, h1⟩
    refine ⟨_, n, c, xs, rfl, by omega, rd_rows 5 Ow.cells (fun _ => rfl) hl fun i x hx => (hq i x hx).1, fun x hx => ?_⟩
    obtain ⟨i, hi⟩ := List.mem_iff_getElem?.1 hx
    exact (hq i x hi).2
end

theorem gSy : Tryz.prog.globalNamed "strconv.ErrSyntax" = some 0 := by kernel_rfl
theorem gRg : Tryz.prog.globalNamed "strconv.ErrRange" = some 1 := by kernel_rfl
theorem tSy : (Tryz.prog.globals[0]?).map (·.type) = some 86 := by kernel_rfl
theorem tRg : (Tryz.prog.globals[1]?).map (·.type) = some 86 := by kernel_rfl
theorem errCell_of {g t fuel : Nat} {n nm : String} {d : DataW Unit} {cs : Array Value} {p : List MemPlace} {W : World} {g0 : Nat} (h0 : Tryz.prog.globalNamed n = some g0) (h1 : (Tryz.prog.globals[g0]?).map (·.type) = some 86)
    (hg : Tryz.prog.globalNamed n = some g) (ht : (Tryz.prog.globals[g]?).map (·.type) = some t) (hv : W.var? Tryz.prog n = some cs) (hd : DataW.trod (fun _ => ()) Tryz.prog W 0 (fun _ => true) false fuel t cs.toList = some (.iface nm d, p)) : ErrCell W g0 := by
  obtain rfl := Option.some.inj (h0.symm.trans hg)
  obtain rfl := Option.some.inj (h1.symm.trans ht)
  obtain ⟨f1, u, v, hcs, _⟩ := iface_of_trod Tryz.underlying86 hd
  refine ⟨u, v, ?_⟩
  rw [World.var?_cell h0 hv 0]
  rw [← Array.getElem?_toList, hcs]
  rfl
theorem errs_of_laid {x y z : String × DataW Unit} {n1 n2 : String} {d1 d2 : DataW Unit} {r : List (String × DataW Unit)} {W : World} (h : laidMet Tryz.prog (x :: y :: z :: ("strconv.ErrRange", .iface n1 d1) :: ("strconv.ErrSyntax", .iface n2 d2) :: r) W) : Errs W := by
  obtain ⟨ps, ⟨_, _, _, _, _, _, _, _, _, _, ⟨_, _, _, _, _, _, _, _, _, _, ⟨_, _, _, _, _, _, _, _, _, _, ⟨g1, t1, c1, f1, p1, q1, hg1, ht1, hv1, hd1, ⟨g2, t2, c2, f2, p2, q2, hg2, ht2, hv2, hd2, _, _⟩, _⟩, _⟩, _⟩, _⟩, _⟩ := h
  exact ⟨errCell_of gSy tSy hg2 ht2 hv2 hd2, errCell_of gRg tRg hg1 ht1 hv1 hd1⟩

set_option maxRecDepth 100000 in
theorem contract (H : Type) (enc : TypeId × Value → H) (W : World) (base : Nat) (args : Array Value) (ds gs : List (DataW H)) (before : List MemPlace)
    (hval : ∀ (j : Nat) t v, Tryz.f5.params[j]? = some t → args[j]? = some v → Value.okWide Tryz.prog W .any base t v)
    (hW : DataW.Whole enc Tryz.prog Tryz.f5.params.toList Rows.walPlaysSpec.vars false W args.toList ds gs before)
    (hsz : (DataW.weightsEach Tryz.prog (Tryz.f5.params.toList ++ (OpenSpec.ofChange Rows.walPlaysSpec).bare.plain.varTypes Tryz.prog) (ds ++ gs)).all (· ≤ reachBytes) = true) (hL : laidMetH Tryz.prog Rows.walPlaysRow.laid W) :
    Calls Tryz.prog 5 args W fun e W' => ∃ v, e = .returned v ∧ Rows.walPlaysSpec.post enc Tryz.prog Tryz.f5 false true false false W args v W' := by
  have hW' := hW
  have hlt := hW.lt
  obtain ⟨p, q, hA0, hV, rfl, hfz, hnd⟩ := hW
  have hA : DataW.TrodAll enc Tryz.prog W 0 (fun _ => true) true Tryz.f5.params.toList args.toList ds p := hA0
  obtain ⟨rfl, rfl⟩ := trodVars_none hV
  simp only [List.append_nil] at hW' hlt hsz
  have hAk := hA
  rw [Tryz.params5] at hA hval hsz
  obtain ⟨v0, vs0, d0, ds0, p0, q0, hargs, rfl, rfl, h0, r0⟩ := trodAll_cons hA
  obtain ⟨v1, vs1, d1, ds1, p1, q1, rfl, rfl, rfl, h1, r1⟩ := trodAll_cons r0
  obtain ⟨v2, vs2, d2, ds2, p2, q2, rfl, rfl, rfl, h2, r2⟩ := trodAll_cons r1
  obtain ⟨rfl, rfl, rfl⟩ := trodAll_nil r2
  obtain rfl : args = #[v0, v1, v2] := by cases args; simp_all
  obtain ⟨n, rfl⟩ := okWide_int Tryz.underlying3 (hval 0 _ v0 rfl rfl)
  obtain ⟨A1, n1, c1, rfl⟩ := okWide_slice Tryz.underlying41 (hval 1 _ v1 rfl rfl)
  obtain ⟨A2, n2, c2, rfl⟩ := okWide_slice Tryz.underlying42 (hval 2 _ v2 rfl rfl)
  obtain ⟨A, k, c, fs, he1, hk, hx, hfs⟩ := open_files (Reads.arg h1 hsz (j := 1) rfl rfl)
  obtain ⟨S, ns, cs, ops, he2, hns, hs, hops⟩ := open_ops (Reads.arg h2 hsz (j := 2) rfl rfl)
  simp only [Value.cells, List.cons.injEq, Value.slice.injEq, and_true] at he1 he2
  obtain ⟨rfl, rfl, rfl⟩ := he1
  obtain ⟨rfl, rfl, rfl⟩ := he2
  refine (plays_walk n A1 n1 c1 fs A2 n2 c2 ops W (lay_of_laid hL) (errs_of_laid hL) hx (fun x hx => (hfs x hx).1) (fun x hx => (hfs x hx).2) hk hs hops hns).mono fun e W' ⟨he, hg⟩ => ?_
  subst he
  have hb := hg.below0
  refine ⟨_, rfl, ⟨_, _, _, [], _, [], hW', ?_, trodAll_stays hb ?_ hAk hlt, rfl, hb.frame _, fun h => by cases h⟩⟩
  · exact trodAll_cons_mk (shut_bool Tryz.underlying4 _) trodAll_mk0
  · intro t ht
    rw [Tryz.params5] at ht
    simp only [List.mem_cons, List.not_mem_nil, or_false] at ht
    rcases ht with rfl | rfl | rfl
    · exact ⟨by kernel_rfl, of_decide_eq_true (by kernel_rfl)⟩
    · exact ⟨by kernel_rfl, of_decide_eq_true (by kernel_rfl)⟩
    · exact ⟨by kernel_rfl, of_decide_eq_true (by kernel_rfl)⟩

/-- A WORLD FOR THE WITNESS: the settled one, each table holding what its initialiser lays. -/
def laidCells : DataW Unit → Array Value
  | .agg l => (l.map fun d => match d with
    | .lit (.int k n) => Value.int k n
    | _ => undef).toArray
  | _ => #[]
def layOn (g : Nat) (d : DataW Unit) (h : Array Obj) : Array Obj := h.modify g fun
  | .cells _ t frozen => .cells (laidCells d) t frozen
  | o => o
/-- an error of the library's at the heap's end, and the variable that holds it. -/
def layErr (g : Nat) (msg : ByteArray) (h : Array Obj) : Array Obj := (h.modify g fun
  | .cells _ t frozen => .cells #[.iface 184 (.pointer (some ⟨h.size, 0, none⟩))] t frozen
  | o => o).push (.cells #[.string msg] 186)
noncomputable def laidWorld (os : Os) : World :=
  { World.holding Tryz.prog os ⟨#[], #[], []⟩ with heap := layErr 0 ⟨#[105, 110, 118, 97, 108, 105, 100, 32, 115, 121, 110, 116, 97, 120]⟩ (layErr 1 ⟨#[118, 97, 108, 117, 101, 32, 111, 117, 116, 32, 111, 102, 32, 114, 97, 110, 103, 101]⟩ (layOn 2 Rows.laid_internal_strconv_uint64pow10 (layOn 5 Rows.laid_math_bits_deBruijn64tab (layOn 4 Rows.laid_math_bits_deBruijn32tab (World.holding Tryz.prog os ⟨#[], #[], []⟩).heap)))) }
def wArgs : Array Value := #[.int .i64 0, .slice none 0 0, .slice none 0 0]
set_option maxRecDepth 100000 in
theorem laid_met (os : Os) : laidMet Tryz.prog Rows.walPlaysRow.laid ((laidWorld os).forCall (fun _ _ => 0) ⟨#[], wArgs, []⟩).memory :=
  laidMet_of_run' 64 (by kernel_rfl) (by kernel_rfl)
set_option maxRecDepth 100000 in
theorem reads (os : Os) {H : Type} (enc : TypeId × Value → H) : ∃ places, DataW.whole enc Tryz.prog ((laidWorld os).forCall (fun _ _ => 0) ⟨#[], wArgs, []⟩).memory Tryz.f5.params.toList Rows.walPlaysSpec.vars false wArgs.toList 8 = some ([.lit (.int .i64 0), .nil, .nil], [], places) :=
  ⟨[], by kernel_rfl⟩

set_option maxRecDepth 100000 in
theorem lifted (os : Os) (started : os.Started) (H : Type) (enc : TypeId × Value → H) (F : Stop.Interp) :
    ReturnsInHanded {} Tryz.checked os 5 .any ((OpenSpec.ofChange Rows.walPlaysSpec).preRow enc Tryz.prog Tryz.f5 Rows.walPlaysRow.domain false Rows.walPlaysRow.laid) (((OpenSpec.ofChange Rows.walPlaysSpec).at F).post enc Tryz.prog Tryz.f5 false true false false) := by
  obtain ⟨places, hx⟩ := reads os enc
  refine returnsInHanded_of_row (C := Tryz.checked) (s := OpenSpec.ofChange Rows.walPlaysSpec) own started (by kernel_rfl) Tryz.func5
    (witness_row_at (enc := enc) (C := Tryz.checked) false (laidWorld os) wArgs rfl (by kernel_rfl) (by kernel_rfl) (by kernel_rfl)
      (OpenSpec.preRow_of_cond 8 hx (by kernel_rfl) (fun k hk => by cases hk) (by kernel_rfl) (laid_met os))) ?_
  intro W base args ds gs before hval hW _ _ hsz hL _ _
  exact contract H enc W base args ds gs before hval hW hsz hL

set_option maxRecDepth 100000 in
theorem said : Rows.WalPlaysSaid :=
  OpenClaim.holds_of_cond 5 Tryz.f5 rfl rfl rfl rfl rfl rfl rfl ⟨rfl, rfl, rfl, rfl, rfl⟩ rfl rfl rfl rfl rfl (by kernel_rfl) Tryz.func5 (by kernel_rfl)
    (of_decide_eq_true (by kernel_rfl)) (by unfold Func.isWrapper; first | (rw [if_pos (by decide +kernel)]; kernel_rfl) | (rw [if_neg (by decide +kernel)]; exact ⟨rfl, rfl⟩))
    (fun os started H enc _ F => by rw [OpenClaim.pre_eq_preRow]; exact lifted os started H enc F)

set_option maxRecDepth 100000 in
theorem plain (f : FuncId) (fn : Func) (hf : Tryz.pinned.checked.prog.funcNamed "sawyer/sawyerlaw05.WalPlays" = some f) (hfn : Tryz.pinned.checked.prog.funcs[f]? = some fn) :
    true = Tryz.pinned.checked.prog.looks [] ∧ ∀ (j : Nat) t, fn.params[j]? = some t → Tryz.pinned.checked.prog.wantsStandIn t = false := by
  obtain rfl : f = 5 := Option.some.inj ((show Tryz.prog.funcNamed "sawyer/sawyerlaw05.WalPlays" = some 5 by kernel_rfl).symm.trans hf) |>.symm
  obtain rfl : fn = Tryz.f5 := (Option.some.inj (Tryz.func5.symm.trans hfn)).symm
  refine ⟨by kernel_rfl, fun j t ht => ?_⟩
  rw [Tryz.params5] at ht
  have h := Array.mem_of_getElem? ht
  simp only [List.mem_toArray, List.mem_cons, List.not_mem_nil, or_false] at h
  rcases h with rfl | rfl | rfl
  · exact (show Tryz.prog.wantsStandIn 3 = false by kernel_rfl)
  · exact (show Tryz.prog.wantsStandIn 41 = false by kernel_rfl)
  · exact (show Tryz.prog.wantsStandIn 42 = false by kernel_rfl)

set_option maxRecDepth 100000 in
/-- THE CARD. -/
theorem card : Rows.WalPlaysCardSaid :=
  Claim7.holds_tied_plain_at .later [] _ _ _ _ said (fun _ h => by cases h) (by kernel_rfl) (fun _ h => by cases h) walPlays_row_tie rfl ⟨rfl, rfl⟩ (by kernel_rfl) rfl plain (by kernel_rfl)

end Go.Proofs.YtgdamcimpgapgaaGreatDoor.walPlays
