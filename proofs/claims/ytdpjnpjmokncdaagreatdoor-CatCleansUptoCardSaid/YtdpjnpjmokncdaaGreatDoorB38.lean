/- cat.Need. -/
import Derived.Test.YtdpjnpjmokncdaaGreatDoorB34
import Derived.Test.YtdpjnpjmokncdaaGreatDoorB37
import Derived.Test.YtdpjnpjmokncdaaGreatDoorB24
import Derived.Test.YtdpjnpjmokncdaaGreatDoorB26
namespace Go.Proofs.YtdpjnpjmokncdaaGreatDoor
open Go.RowKit

def needC (v : Vs) : Int := if checkV v = true then 36 + (foldN manP v.gen).size + (frameB (encE v)).length + (frameB (nB v.gen)).length else 0

set_option maxRecDepth 100000 in
set_option maxHeartbeats 4000000 in
theorem needC_any (p : Option Addr) (x : Vw) (w : World) (h : VwOk w x) (hL : Lay w) :
    Calls Tryz.prog 35 #[.pointer p, x.val] w fun e w' => e = .returned (.int .i64 (needC x.v)) ∧ Mod Non w w' := by
  obtain ⟨gen, next, log, seq, A, c, ms⟩ := x
  obtain ⟨n, hn⟩ : ∃ n, ms.length = n := ⟨_, rfl⟩
  obtain ⟨V, hV⟩ : ∃ V, Vw.v ⟨gen, next, log, seq, A, c, ms⟩ = V := ⟨_, rfl⟩
  have hgen : V.gen = gen := by rw [← hV]; rfl
  have hck : ∀ W, Mod Non w W → Calls Tryz.prog 22 #[.agg #[.int .i64 gen, .int .i64 next, .int .i64 log, .int .i64 seq, .slice A n c]] W fun e w' => e = .returned (.int .i64 (if checkV V = true then 0 else 1)) ∧ Mod Non W w' := fun W hW => by
    have := check_any ⟨gen, next, log, seq, A, c, ms⟩ W (h.mod0 hW)
    unfold Vw.val at this
    simp only at this
    rw [hn, hV] at this
    exact this
  have hfs : ∀ W, Mod Non w W → Calls Tryz.prog 37 #[.agg #[.int .i64 gen, .int .i64 next, .int .i64 log, .int .i64 seq, .slice A n c]] W (FsPost V W) := fun W hW => by
    have := files_any ⟨gen, next, log, seq, A, c, ms⟩ W (h.mod0 hW)
    unfold Vw.val at this
    simp only at this
    rw [hn, hV] at this
    exact this
  have HCK := Lib.hid hck
  have HFS := Lib.hid hfs
  have HG := Lib.hid hgen
  have HL := Lib.hid hL
  rw [hV]
  unfold Vw.val
  simp only
  rw [hn]
  have HBX := Lib.hid (Blk.new w 34 #[.int .i64 gen, .int .i64 next, .int .i64 log, .int .i64 seq, .slice A n c])
  have HMA := Lib.hid ((Mod.refl Non w).alloc (.cells #[.int .i64 gen, .int .i64 next, .int .i64 log, .int .i64 seq, .slice A n c] 34))
  have hbx : ∀ W, Mod Non (w.alloc (.cells #[.int .i64 gen, .int .i64 next, .int .i64 log, .int .i64 seq, .slice A n c] 34)) W → Blk W w.heap.size 34 #[.int .i64 gen, .int .i64 next, .int .i64 log, .int .i64 seq, .slice A n c] := fun W hW => HBX.out.mod hW fun h => h
  have HBW := Lib.hid hbx
  clear hck hfs hgen hV hn h hL hbx
  by_cases hcv : checkV V = true
  · rw [if_pos hcv] at HCK
    obtain ⟨r, hr⟩ : ∃ r, needC V = r := ⟨_, rfl⟩
    have hr' : (36 : Int) + (foldN manP gen).size + (frameB (encE V)).length + (frameB (nB gen)).length = r := by
      rw [← hr]
      unfold needC
      rw [if_pos hcv, HG.out]
    rw [hr]
    have hl1 : (encE V).length ≤ 1048576 := by
      unfold encE
      rw [if_pos hcv]
      have h1 := (encV_len hcv).1
      have h2 := (encV_len hcv).2
      omega
    have hl2 : (nB gen).length ≤ 9 := nB_len gen
    have hl3 : (foldN manP gen).size ≤ 17 := by
      by_cases hr : 0 ≤ gen ∧ gen ≤ 1099511627776
      · rw [foldN_size hr]; decide
      · rw [foldN_0 hr]; omega
    have hf1 := frameB_len hl1
    have hf2 := frameB_len (b := nB gen) (by omega)
    have HF := Lib.hid (And.intro hl1 (And.intro hl2 (And.intro hl3 (And.intro hf1 hf2))))
    have HR := Lib.hid hr'
    obtain ⟨nm, hnm⟩ : ∃ nm, foldN manP gen = nm := ⟨_, rfl⟩
    have HNM := Lib.hid hnm
    clear hl1 hl2 hl3 hf1 hf2 hr hr' hcv hnm
    go_enter Tryz.func35, Tryz.ntmps35
    have hb := HBW.out _ (Mod.refl _ _)
    have x0 := hb.cell 0
    have x1 := hb.cell 1
    have x2 := hb.cell 2
    have x3 := hb.cell 3
    have x4 := hb.cell 4
    go_wp2_with fail
    refine (HCK.out _ HMA.out).mono ?_
    rintro e w1 ⟨rfl, hm1⟩
    have HM1 := Lib.hid hm1
    have hb := HBW.out _ HM1.out
    have y0 : w1.cell? ⟨w.heap.size, 0, none⟩ = some (.int .i64 gen) := hb.cell 0
    have y1 : w1.cell? ⟨w.heap.size, 1, none⟩ = some (.int .i64 next) := hb.cell 1
    have y2 : w1.cell? ⟨w.heap.size, 2, none⟩ = some (.int .i64 log) := hb.cell 2
    have y3 : w1.cell? ⟨w.heap.size, 3, none⟩ = some (.int .i64 seq) := hb.cell 3
    have y4 : w1.cell? ⟨w.heap.size, 4, none⟩ = some (.slice A n c) := hb.cell 4
    clear hm1 hb x0 x1 x2 x3 x4
    go_wp2_with fail
    refine (HFS.out w1 (HMA.out.trans0 HM1.out)).mono ?_
    rintro e w2 ⟨FA, fn, fc, FB, fm, fd, rfl, hr1, hr2, _, _, _, _, _, _, hm2⟩
    have HM2 := Lib.hid (HM1.out.trans0 hm2)
    have hfn : (frameB (encE V)).length = fn := by simpa using hr1.1
    have hfm : (frameB (nB gen)).length = fm := by have := hr2.1; rw [HG.out] at this; simpa using this
    have hb := HBW.out _ HM2.out
    have z0 : w2.cell? ⟨w.heap.size, 0, none⟩ = some (.int .i64 gen) := hb.cell 0
    have hfin : (32 : Int) + nm.size + 4 + fn + fm = r := by
      have := HR.out
      rw [HNM.out, hfn, hfm] at this
      omega
    have hbd : nm.size ≤ 1000 ∧ fn ≤ 100000000 ∧ fm ≤ 100000000 := by
      obtain ⟨h1, h2, h3, h4, h5⟩ := HF.out
      rw [HNM.out] at h3
      omega
    obtain ⟨b1, b2, b3⟩ := hbd
    have HFIN := Lib.hid hfin
    have hnd : ∀ W, Mod Non w W → Calls Tryz.prog 36 #[.string ⟨#[109, 97, 110, 47]⟩, .int .i64 gen] W fun e w' => e = .returned (.string nm) ∧ Mod Non W w' := fun W hW => by
      have := fold_any manP gen W (HL.out.mod0 hW) (by decide)
      rw [HNM.out] at this
      exact this
    have HND := Lib.hid hnd
    clear hm2 hr1 hr2 hfn hfm hb hfin hnd y0 y1 y2 y3 y4
    go_wp2_with fail
    refine (HND.out w2 (HMA.out.trans0 HM2.out)).mono ?_
    rintro e w3 ⟨rfl, hm3⟩
    have HM3 := Lib.hid (HM2.out.trans0 hm3)
    clear hm3
    go_wp2_with fail
    go_ret
    refine ⟨?_, HMA.out.trans0 HM3.out⟩
    rw [← HFIN.out]
    rfl
  · rw [if_neg hcv] at HCK
    have hr : needC V = 0 := by unfold needC; rw [if_neg hcv]
    rw [hr]
    clear hr hcv
    go_enter Tryz.func35, Tryz.ntmps35
    have hb := HBW.out _ (Mod.refl _ _)
    have x0 := hb.cell 0
    have x1 := hb.cell 1
    have x2 := hb.cell 2
    have x3 := hb.cell 3
    have x4 := hb.cell 4
    go_wp2_with fail
    refine (HCK.out _ HMA.out).mono ?_
    rintro e w1 ⟨rfl, hm1⟩
    have HM1 := Lib.hid hm1
    clear hm1
    go_wp2_with fail
    go_ret
    exact ⟨rfl, HMA.out.trans0 HM1.out⟩

end Go.Proofs.YtdpjnpjmokncdaaGreatDoor

/- package cat on the plain disk: sweep, write, Save, Clean. Plain. -/
namespace Go.Proofs.YtdpjnpjmokncdaaGreatDoor
open Go.RowKit

def shadN : ByteArray := ⟨#[99, 117, 114, 126]⟩
def tabP : ByteArray := ⟨#[116, 97, 98, 47]⟩
def logP : ByteArray := ⟨#[119, 97, 108, 47]⟩
theorem shadN_named : named shadN = true := by decide +kernel

/-- the names of all files, rising. -/
def namesD (D : Dk) : List ByteArray := ((D.files.map keyF).mergeSort fun x y => decide (x ≤ y)).map fun l => ⟨l.toArray⟩
theorem msort_le (a : List (List UInt8)) : (a.mergeSort fun x y => decide (x ≤ y)).Pairwise (fun a b => a ≤ b) := by
  have := List.pairwise_mergeSort (le := fun x y : List UInt8 => decide (x ≤ y)) (fun a b c h1 h2 => by
    simp only [decide_eq_true_eq] at *
    exact List.le_trans h1 h2) (fun a b => by
    simp only [Bool.or_eq_true, decide_eq_true_eq]
    exact List.le_total a b) a
  exact this.imp fun h => by simpa using h
theorem msort_perm {a b : List (List UInt8)} (h : a.Perm b) : (a.mergeSort fun x y => decide (x ≤ y)) = (b.mergeSort fun x y => decide (x ≤ y)) :=
  ((List.mergeSort_perm a _).trans (h.trans (List.mergeSort_perm b _).symm)).eq_of_pairwise (fun _ _ _ _ h1 h2 => List.le_antisymm h1 h2) (msort_le a) (msort_le b)
theorem namesD_of {D : Dk} {L : List ByteArray} (h : NamesAre D L) : L = namesD D := by
  obtain ⟨ss, hp, rfl⟩ := h
  unfold namesD
  rw [msort_perm hp]
  rfl
theorem namesD_are (D : Dk) : NamesAre D (namesD D) := ⟨D.files.map keyF, .refl _, rfl⟩
theorem namesD_sorted {D : Dk} {L : List Fl} (h : SortedOf D.files L) : namesD D = L.map (·.name) := h.names (namesD_are D)
theorem namesD_perm (D : Dk) (nd : (D.files.map (·.name)).Nodup) : (namesD D).Perm (D.files.map (·.name)) := by
  obtain ⟨L, hL⟩ := sorted_of D nd
  rw [namesD_sorted hL]
  exact hL.perm.map _
theorem namesD_mem {D : Dk} (nd : (D.files.map (·.name)).Nodup) {nm : ByteArray} : nm ∈ namesD D ↔ (findF D.files nm).isSome = true := by
  rw [(namesD_perm D nd).mem_iff]
  constructor
  · intro h
    obtain ⟨f, hf⟩ := findF_of_name h
    rw [hf]; rfl
  · intro h
    obtain ⟨f, hf⟩ := Option.isSome_iff_exists.1 h
    exact List.mem_map.2 ⟨f, findF_mem hf, find_name hf⟩
theorem namesD_len (D : Dk) (nd : (D.files.map (·.name)).Nodup) : (namesD D).length = D.files.length := by
  have := (namesD_perm D nd).length_eq
  simpa using this
theorem namesD_nodup {D : Dk} (nd : (D.files.map (·.name)).Nodup) : (namesD D).Nodup := (namesD_perm D nd).nodup_iff.2 nd

/-- remove the files of a list that are so; stop at the first error. -/
def sweepL (so : ByteArray → Bool) : List ByteArray → Dk → Dk × Int
  | [], D => (D, 0)
  | n :: r, D => if so n = true then (if removeE D n = 0 then sweepL so r (removeD D n) else (removeD D n, removeE D n)) else sweepL so r D
def sweepD (so : ByteArray → Bool) (D : Dk) : Dk × Int := sweepL so (namesD D) D
def writeD (D : Dk) (nm : ByteArray) (b : List UInt8) : Dk × Int :=
  if (appAll nm D (piecesB b)).2 = 0 then (syncD (appAll nm D (piecesB b)).1 nm, syncE (appAll nm D (piecesB b)).1 nm) else appAll nm D (piecesB b)

def soOwn (own nm : ByteArray) : Bool := decide (nm = shadN) || decide (nm = own)
def soOld (own nm : ByteArray) : Bool := (numF manP nm).isSome && decide (nm ≠ own)
/-- behind the head of a Save. -/
def saveT (D : Dk) (v : Vs) : Dk × Int :=
  let own := foldN manP v.gen
  let s1 := sweepD (soOwn own) D
  if s1.2 = 0 then
    let s2 := writeD s1.1 own (frameB (encE v))
    if s2.2 = 0 then
      let s3 := writeD s2.1 shadN (frameB (nB v.gen))
      if s3.2 = 0 then
        if renameE s3.1 shadN curN = 0 then sweepD (soOld own) (renameD s3.1 shadN curN) else (renameD s3.1 shadN curN, renameE s3.1 shadN curN)
      else s3
    else s2
  else s1
def saveD (D : Dk) (v : Vs) : Dk × Int :=
  if checkV v = true ∧ v.gen ≠ 0 then (if D.off = true then (D, 5) else if D.n - D.used < needC v then (D, 4) else saveT D v) else (D, 1)
def cleanSo (v : Vs) (nm : ByteArray) : Bool := match numF manP nm with
  | some n => decide (n ≠ v.gen)
  | none => match numF tabP nm with
    | some n => !(v.tables.any fun m => decide (m.num = n))
    | none => decide (nm = shadN) || (match numF logP nm with | some n => decide (n < v.log) | none => false)
def cleanD (D : Dk) (v : Vs) : Dk × Int := if checkV v = true then sweepD (cleanSo v) D else (D, 1)

/-! what they keep -/
theorem sweepL_ok (so : ByteArray → Bool) : ∀ (L : List ByteArray) {D : Dk}, DkOk D → DkOk (sweepL so L D).1
  | [], _, ok => ok
  | n :: r, D, ok => by
    rw [sweepL]
    split
    · split
      · exact sweepL_ok so r (removeD_ok ok n)
      · exact removeD_ok ok n
    · exact sweepL_ok so r ok
theorem sweepD_ok (so : ByteArray → Bool) {D : Dk} (ok : DkOk D) : DkOk (sweepD so D).1 := sweepL_ok so _ ok
theorem writeD_ok {D : Dk} (ok : DkOk D) (nm : ByteArray) (b : List UInt8) : DkOk (writeD D nm b).1 := by
  unfold writeD
  split
  · exact syncD_ok (appAll_ok ok _) _
  · exact appAll_ok ok _
theorem saveT_ok {D : Dk} (ok : DkOk D) (v : Vs) : DkOk (saveT D v).1 := by
  unfold saveT
  simp only
  have o1 := sweepD_ok (soOwn (foldN manP v.gen)) ok
  split
  · have o2 := writeD_ok o1 (foldN manP v.gen) (frameB (encE v))
    split
    · have o3 := writeD_ok o2 shadN (frameB (nB v.gen))
      split
      · split
        · exact sweepD_ok _ (renameD_ok o3 _ _)
        · exact renameD_ok o3 _ _
      · exact o3
    · exact o2
  · exact o1
theorem saveD_ok {D : Dk} (ok : DkOk D) (v : Vs) : DkOk (saveD D v).1 := by
  unfold saveD
  split
  · split
    · exact ok
    · split
      · exact ok
      · exact saveT_ok ok v
  · exact ok
theorem cleanD_ok {D : Dk} (ok : DkOk D) (v : Vs) : DkOk (cleanD D v).1 := by
  unfold cleanD
  split
  · exact sweepD_ok _ ok
  · exact ok

/-! one step -/
theorem removeD_files {D : Dk} (nm : ByteArray) : (removeD D nm).files = if removeE D nm = 0 then delF D.files nm else D.files := by
  unfold removeD removeE
  by_cases hn : named nm = true
  · by_cases ho : D.off = true
    · rw [if_neg (by rw [ho]; simp), if_pos hn, if_pos ho, if_neg (by omega)]
    · have ho' : D.off = false := by simpa using ho
      rw [if_pos ⟨hn, ho'⟩, if_pos hn, if_neg ho]
      cases hf : findF D.files nm with
      | none => simp only; rw [if_neg (by omega)]
      | some f =>
        simp only
        split
        · rfl
        · exact spendD_files _ _
  · rw [if_neg (fun h => hn h.1), if_neg hn, if_neg (by omega)]
theorem removeD_other {D : Dk} {nm k : ByteArray} (h : k ≠ nm) : findF (removeD D nm).files k = findF D.files k := by
  rw [removeD_files]
  split
  · exact findF_del_other (fun e => h e.symm) _
  · rfl
theorem removeD_gone {D : Dk} (nd : (D.files.map (·.name)).Nodup) {nm : ByteArray} (h : removeE D nm = 0) : findF (removeD D nm).files nm = none := by
  rw [removeD_files, if_pos h]
  exact findF_del_same nd
theorem appendD_other {D : Dk} {nm k : ByteArray} (h : k ≠ nm) (b : List UInt8) : findF (appendD D nm b).files k = findF D.files k := by
  unfold appendD
  split
  · split
    · exact findF_put_other _ (by rw [fileA_name]; exact fun e => h e.symm) _
    · rw [spendD_files]
  · rfl
theorem syncD_other {D : Dk} {nm k : ByteArray} (h : k ≠ nm) : findF (syncD D nm).files k = findF D.files k := by
  unfold syncD
  split
  · split
    · rfl
    · split
      · exact findF_put_other _ (fun e => h e.symm) _
      · rw [spendD_files]
  · rfl
theorem appAll_other {nm k : ByteArray} (h : k ≠ nm) (l : List (List UInt8)) (D : Dk) : findF (appAll nm D l).1.files k = findF D.files k := by
  unfold appAll
  suffices ∀ s : Dk × Int, findF (l.foldl (appStep nm) s).1.files k = findF s.1.files k from this _
  intro s
  induction l generalizing s with
  | nil => rfl
  | cons b r ih =>
    rw [List.foldl_cons, ih]
    unfold appStep
    split
    · exact appendD_other h b
    · rfl
theorem writeD_other {D : Dk} {nm k : ByteArray} (h : k ≠ nm) (b : List UInt8) : findF (writeD D nm b).1.files k = findF D.files k := by
  unfold writeD
  split
  · rw [syncD_other h, appAll_other h]
  · exact appAll_other h _ _
theorem sweepL_other {so : ByteArray → Bool} {k : ByteArray} (h : so k = false) : ∀ (L : List ByteArray) (D : Dk), findF (sweepL so L D).1.files k = findF D.files k
  | [], _ => rfl
  | n :: r, D => by
    rw [sweepL]
    split
    · rename_i hs
      have hk : k ≠ n := fun e => by rw [e, hs] at h; cases h
      split
      · rw [sweepL_other h r, removeD_other hk]
      · exact removeD_other hk
    · exact sweepL_other h r D
theorem sweepL_less {so : ByteArray → Bool} {k : ByteArray} : ∀ (L : List ByteArray) {D : Dk}, DkOk D → findF D.files k = none → findF (sweepL so L D).1.files k = none
  | [], _, _, h => h
  | n :: r, D, ok, h => by
    have hr : findF (removeD D n).files k = none := by
      by_cases hk : k = n
      · rw [removeD_files]
        split
        · rw [hk]; exact findF_del_same ok.nd
        · exact h
      · rw [removeD_other hk]; exact h
    rw [sweepL]
    split
    · split
      · exact sweepL_less r (removeD_ok ok n) hr
      · exact hr
    · exact sweepL_less r ok h
theorem sweepL_gone {so : ByteArray → Bool} {k : ByteArray} (hs : so k = true) : ∀ (L : List ByteArray) {D : Dk}, DkOk D → (sweepL so L D).2 = 0 → k ∈ L → findF (sweepL so L D).1.files k = none
  | n :: r, D, ok, h0, hk => by
    rw [sweepL] at h0 ⊢
    rcases List.mem_cons.1 hk with rfl | hk
    · rw [if_pos hs] at h0 ⊢
      split at h0
      · rename_i hr
        rw [if_pos hr]
        exact sweepL_less r (removeD_ok ok _) (removeD_gone ok.nd hr)
      · rename_i hr
        exact absurd h0 hr
    · split at h0
      · rename_i hn
        rw [if_pos hn]
        split at h0
        · rename_i hr
          rw [if_pos hr]
          exact sweepL_gone hs r (removeD_ok ok _) h0 hk
        · rename_i hr
          exact absurd h0 hr
      · rename_i hn
        rw [if_neg hn]
        exact sweepL_gone hs r ok h0 hk
theorem sweepD_other {so : ByteArray → Bool} {k : ByteArray} (h : so k = false) (D : Dk) : findF (sweepD so D).1.files k = findF D.files k := sweepL_other h _ D
theorem sweepD_gone {so : ByteArray → Bool} {k : ByteArray} (hs : so k = true) {D : Dk} (ok : DkOk D) (h0 : (sweepD so D).2 = 0) : findF (sweepD so D).1.files k = none := by
  by_cases hk : k ∈ namesD D
  · exact sweepL_gone hs _ ok h0 hk
  · refine sweepL_less _ ok ?_
    cases hf : findF D.files k with
    | none => rfl
    | some f => exact absurd ((namesD_mem ok.nd).2 (by rw [hf]; rfl)) hk
theorem sweepD_less {so : ByteArray → Bool} {k : ByteArray} {D : Dk} (ok : DkOk D) (h : findF D.files k = none) : findF (sweepD so D).1.files k = none := sweepL_less _ ok h
/-- a sweep that went well keeps what is not so, and nothing else. -/
theorem sweepD_find {so : ByteArray → Bool} {D : Dk} (ok : DkOk D) (h0 : (sweepD so D).2 = 0) (k : ByteArray) : findF (sweepD so D).1.files k = if so k = true then none else findF D.files k := by
  split
  · rename_i h; exact sweepD_gone h ok h0
  · rename_i h; exact sweepD_other (by simpa using h) D

theorem syncD_zero {D : Dk} {nm : ByteArray} {f : Fl} (h : syncE D nm = 0) (hf : findF D.files nm = some f) : findF (syncD D nm).files nm = some ⟨nm, f.bytes.length, f.bytes⟩ := by
  unfold syncE at h
  split at h
  · rename_i hn
    split at h
    · omega
    · rename_i ho
      rw [if_pos (by rw [hf]; rfl)] at h
      unfold syncD
      rw [if_pos ⟨hn, by simpa using ho⟩, hf]
      simp only
      rw [if_pos h]
      exact findF_put_same ⟨nm, f.bytes.length, f.bytes⟩ _
  · omega
theorem appendD_zero {D : Dk} {nm : ByteArray} {b : List UInt8} (h : appendE D nm b = 0) : ∃ s, findF (appendD D nm b).files nm = some ⟨nm, s, fileB D nm ++ b⟩ := by
  unfold appendE at h
  split at h
  · rename_i hn
    split at h
    · omega
    · rename_i ho
      unfold appendD
      rw [if_pos ⟨hn.1, hn.2, by simpa using ho⟩, if_pos h]
      have := findF_put_same (fileA D nm b) D.files
      rw [fileA_name] at this
      simp only [this]
      unfold fileA fileB
      split
      · rename_i f hf; exact ⟨f.safe, by rw [hf]⟩
      · rename_i hf; exact ⟨0, by rw [hf]; rfl⟩
  · omega
theorem appAll_zero {nm : ByteArray} : ∀ (l : List (List UInt8)) {D : Dk} {f : Fl}, findF D.files nm = some f → (appAll nm D l).2 = 0 → ∃ s, findF (appAll nm D l).1.files nm = some ⟨nm, s, f.bytes ++ l.flatten⟩
  | [], D, f, hf, _ => by
    have hn := find_name hf
    refine ⟨f.safe, ?_⟩
    show findF D.files nm = _
    rw [hf]
    cases f
    simp only at hn
    simp [hn]
  | b :: l, D, f, hf, h0 => by
    by_cases hb : appendE D nm b = 0
    · rw [appAll_cons hb] at h0 ⊢
      obtain ⟨s, hs⟩ := appendD_zero hb
      obtain ⟨s', hs'⟩ := appAll_zero l hs h0
      refine ⟨s', ?_⟩
      rw [hs', fileB_of hf]
      simp
    · exfalso
      have h1 : appAll nm D [b] = (appendD D nm b, appendE D nm b) := by
        unfold appAll
        rw [List.foldl_cons, List.foldl_nil]
        unfold appStep
        rw [if_pos rfl]
      have h2 := appAll_stop (nm := nm) (D := D) (l := [b]) (k := b :: l) ⟨l, rfl⟩ (by rw [h1]; exact hb)
      rw [h2, h1] at h0
      exact hb h0
theorem writeD_zero {D : Dk} {nm : ByteArray} {b : List UInt8} (h : (writeD D nm b).2 = 0) (hf : findF D.files nm = none) (hb : b ≠ []) : findF (writeD D nm b).1.files nm = some ⟨nm, b.length, b⟩ := by
  obtain ⟨hfl, -⟩ := pieces_flat _ b (Nat.le_refl _)
  unfold writeD at h ⊢
  split at h
  · rename_i h0
    rw [if_pos h0]
    have key : ∃ s, findF (appAll nm D (piecesB b)).1.files nm = some ⟨nm, s, b⟩ := by
      cases hp : piecesB b with
      | nil => rw [hp] at hfl; exact absurd hfl.symm hb
      | cons p r =>
        rw [hp] at hfl h0
        by_cases hq : appendE D nm p = 0
        · rw [appAll_cons hq] at h0 ⊢
          obtain ⟨s, hs⟩ := appendD_zero hq
          obtain ⟨s', hs'⟩ := appAll_zero r hs h0
          refine ⟨s', ?_⟩
          rw [hs', fileB_none hf, ← hfl]
          simp
        · exfalso
          have h1 : appAll nm D [p] = (appendD D nm p, appendE D nm p) := by
            unfold appAll
            rw [List.foldl_cons, List.foldl_nil]
            unfold appStep
            rw [if_pos rfl]
          have h2 := appAll_stop (nm := nm) (D := D) (l := [p]) (k := p :: r) ⟨r, rfl⟩ (by rw [h1]; exact hq)
          rw [h2, h1] at h0
          exact hq h0
    obtain ⟨s, hs⟩ := key
    exact syncD_zero h hs
  · rename_i h0
    exact absurd h h0

theorem renameD_not {D : Dk} {a b : ByteArray} (h : renameE D a b ≠ 0) : (renameD D a b).files = D.files := by
  unfold renameE at h
  unfold renameD
  split
  · rename_i hn
    rw [if_pos ⟨hn.1, hn.2.1⟩, if_neg (by rw [hn.2.2]; simp)] at h
    split
    · rfl
    · rename_i f hf
      rw [hf] at h
      simp only at h
      rw [if_neg h, spendD_files]
  · rfl
theorem renameD_zero {D : Dk} (_ok : DkOk D) {a b : ByteArray} {f : Fl} (h : renameE D a b = 0) (_hab : a ≠ b) (hf : findF D.files a = some f) (k : ByteArray) :
    findF (renameD D a b).files k = if k = b then some { f with name := b } else if k = a then none else findF D.files k := by
  unfold renameE at h
  split at h
  · rename_i hn
    split at h
    · omega
    · rename_i ho
      rw [hf] at h
      simp only at h
      unfold renameD
      rw [if_pos ⟨hn.1, hn.2, by simpa using ho⟩, hf]
      simp only
      rw [if_pos h]
      simp only
      split
      · rename_i hk
        rw [hk]
        exact findF_put_same { f with name := b } _
      · rename_i hk
        rw [findF_put_other { f with name := b } (fun e => hk e.symm)]
        split
        · rename_i hk2
          rw [hk2]
          exact findF_del_same _ok.nd
        · rename_i hk2
          exact findF_del_other (fun e => hk2 e.symm) _
  · omega

end Go.Proofs.YtdpjnpjmokncdaaGreatDoor

/- cat.sweep, cat.Table. -/
namespace Go.Proofs.YtdpjnpjmokncdaaGreatDoor
open Go.RowKit

theorem namesA_in {D : Dk} (nm : ByteArray) (h : nm ∈ namesD D) : ∃ f ∈ D.files, f.name = nm := by
  have := names_mem (namesD_are D) nm h
  obtain ⟨f, hf, he⟩ := List.mem_map.1 this
  exact ⟨f, hf, he⟩
theorem named_one {s : ByteArray} (h : named s = true) : 1 ≤ s.size := by
  unfold named at h
  simp only [Bool.and_eq_true, decide_eq_true_eq] at h
  exact h.1

theorem sweepL_drop {so : ByteArray → Bool} {L : List ByteArray} {q : Nat} {nm : ByteArray} (h : L[q]? = some nm) (D : Dk) :
    sweepL so (L.drop q) D = if so nm = true then (if removeE D nm = 0 then sweepL so (L.drop (q + 1)) (removeD D nm) else (removeD D nm, removeE D nm)) else sweepL so (L.drop (q + 1)) D := by
  obtain ⟨hq, he⟩ := List.getElem?_eq_some_iff.1 h
  rw [List.drop_eq_getElem_cons hq, he, sweepL]

/-- memory between two rounds of a sweep. -/
structure SwM (F : Nat → Prop) (w w1 : World) (d : Nat) (so : ByteArray → Bool) (L : List ByteArray) (R : Dk × Int) (q : Nat) (F' : Nat → Prop) (D' : Dk) (wr : World) : Prop where
  disk : DiskIs wr F' d D'
  ok : DkOk D'
  mod : Mod F w1 wr
  far : ∀ k, F' k → F k ∨ w1.heap.size ≤ k
  eq : sweepL so (L.drop q) D' = R

set_option maxRecDepth 100000 in
set_option maxHeartbeats 2000000 in
theorem sweep_any (F : Nat → Prop) (d : Nat) (D : Dk) (w : World) (h : DiskIs w F d D) (ok : DkOk D) (g : Nat) (lb : Array Value) (so : ByteArray → Bool)
    (eg : ∀ args w, (callFunc g args).run Tryz.prog w = .ok (.enter g args) w)
    (hso : ∀ W nm, Mod F w W → 1 ≤ nm.size → nm.size ≤ 100 → Calls Tryz.prog g (#[.string nm] ++ lb) W fun e w' => e = .returned (.bool (so nm)) ∧ Mod Non W w') :
    Calls Tryz.prog 38 #[.pointer (some ⟨d, 0, none⟩), .func (.func g) #[] lb] w (DkPost F d (sweepD so D).1 (.int .i64 (sweepD so D).2) w) := by
  obtain ⟨R, hR⟩ : ∃ R, sweepD so D = R := ⟨_, rfl⟩
  rw [hR]
  have hflt : ∀ k, F k → k < w.heap.size := by obtain ⟨G, m, kvs, _, _, _, _, _, h6⟩ := h; exact h6
  have HH := Lib.hid h
  have HO := Lib.hid ok
  have HSO := Lib.hid hso
  have HRR := Lib.hid hR
  have HFL := Lib.hid hflt
  have hfl := files_len ok
  clear h ok hso hR hflt
  go_enter Tryz.func38, Tryz.ntmps38
  go_wp2_with (go_at_call 16; refine (names_any F d D _ HH.out HO.out).mono ?_; rintro e w1 ⟨An, nn, cn, L, rfl, hL, hr1, hnn, hcn, hbn, hb1⟩)
  have hm1 : Mod Non w w1 := Mod.of_below hb1
  have hLe := namesD_of hL
  have hnl : L.length = nn := by have := hr1.1; simpa using this
  have hnn2 : nn ≤ 100000000000 := by
    have := namesD_len D HO.out.nd
    rw [← hLe, hnl] at this
    omega
  have HNM : Hid (∀ nm ∈ L, named nm = true) := fun nm hn => by
    rw [hLe] at hn
    obtain ⟨f, hf, rfl⟩ := namesA_in nm hn
    exact HO.out.nm f hf
  have HEQ : Hid (sweepL so L D = R) := by
    show _ = _
    rw [hLe]
    exact HRR.out
  have HNL := Lib.hid hnl
  have HM1 := Lib.hid hm1
  have HR1 := Lib.hid hr1
  have HBN := Lib.hid hbn
  have hs1 := hm1.size
  clear hnl hL hm1 hr1 hb1 hfl hLe HRR hbn
  go_loopw [11] (fun i wr => ∃ (j : Nat) (F' : Nat → Prop) (D' : Dk), j ≤ nn ∧ i = .int .i64 j ∧ Hid (SwM F w w1 d so L R j F' D' wr)) (fun i _ => nn - (intOf i).toNat)
  case atStart => exact ⟨0, F, D, Nat.zero_le _, rfl, ⟨HH.out.mod0 HM1.out, HO.out, Mod.refl _ _, fun k hk => .inl hk, HEQ.out⟩⟩
  case round =>
    obtain ⟨j, F', D', hj, rfl, HS⟩ := hrel
    have HD := Lib.hid HS.out.disk
    have HMR := Lib.hid HS.out.mod
    by_cases hlt : j < nn
    · have hoff : 0 < nn → Off F An := fun _ b hb hf => by
        have h1 := HBN.out b hb
        have h2 := HFL.out b hf
        omega
      obtain ⟨b, o, rfl, u, hu, hc⟩ := (HR1.out.mod HMR.out hoff).at_ hlt
      rw [List.getElem?_map] at hu
      cases hx : L[j]? with
      | none => rw [hx] at hu; cases hu
      | some nm =>
        rw [hx] at hu
        simp only [Option.map_some, Option.some.injEq] at hu
        subst hu
        have hnmd := HNM.out nm (List.mem_of_getElem? hx)
        have hs100 := named_size hnmd
        have hs1' := named_one hnmd
        have hstep := sweepL_drop (so := so) hx D'
        rw [HS.out.eq] at hstep
        have HST := Lib.hid hstep
        have hcall := HSO.out wr nm (HM1.out.non.trans HMR.out fun k hk => .inl hk) hs1' hs100
        have HCALL := Lib.hid hcall
        have hno : ∀ k, F' k → F k ∨ w1.heap.size ≤ k := HS.out.far
        have HNO := Lib.hid hno
        have HOK := Lib.hid HS.out.ok
        clear hx hnmd hstep hcall hno
        obtain ⟨s, hs⟩ : ∃ s, so nm = s := ⟨_, rfl⟩
        rw [hs] at HCALL HST
        clear hs
        cases s with
        | false =>
          go_wp2_with (go_at_fn g; refine HCALL.out.mono ?_; rintro e w2 ⟨rfl, hm2⟩; have HM2 := Lib.hid hm2; clear hm2)
          go_roundw
          case rel =>
            refine ⟨j + 1, F', D', by omega, by go_num, ⟨HD.out.mod0 HM2.out, HOK.out, HMR.out.trans0 HM2.out, HNO.out, ?_⟩⟩
            have := HST.out
            simp only [Bool.false_eq_true, if_false] at this
            exact this.symm
          case measure => simp [intOf]; omega
        | true =>
          obtain ⟨E, hE⟩ : ∃ E, removeE D' nm = E := ⟨_, rfl⟩
          obtain ⟨D2, hD2⟩ : ∃ D2, removeD D' nm = D2 := ⟨_, rfl⟩
          have HE := Lib.hid hE
          have HD2 := Lib.hid hD2
          have HOK2 : Hid (DkOk D2) := by { show DkOk D2; rw [← hD2]; exact removeD_ok HOK.out nm }
          rw [hE, hD2] at HST
          clear hE hD2
          by_cases hE0 : E = 0
          · subst hE0
            go_wp2_with (first
              | (go_at_fn g; refine HCALL.out.mono ?_; rintro e w2 ⟨rfl, hm2⟩; have HM2 := Lib.hid hm2; clear hm2)
              | (go_at_call 80
                 refine (remove_any F' d D' nm _ (HD.out.mod0 HM2.out) HOK.out (by omega)).mono ?_
                 rw [HE.out, HD2.out]
                 rintro e w3 ⟨rfl, F3, hd3, hm3, hF3⟩
                 have HD3 := Lib.hid hd3
                 have HM3 := Lib.hid hm3
                 have HF3 := Lib.hid hF3
                 clear hd3 hm3 hF3)
              | fail)
            go_roundw
            case rel =>
              refine ⟨j + 1, F3, D2, by omega, by go_num, ⟨HD3.out, HOK2.out, (HMR.out.trans0 HM2.out).trans HM3.out fun k hk => (HNO.out k hk).imp id fun h => h, fun k hk => ?_, ?_⟩⟩
              · rcases HF3.out k hk with h | h
                · exact HNO.out k h
                · have h1 := HMR.out.size
                  have h2 := HM2.out.size
                  exact .inr (by omega)
              · have := HST.out
                simp only [if_true] at this
                exact this.symm
            case measure => simp [intOf]; omega
          · have hE1 : (E == 0) = false := by simp [hE0]
            have hE2 : (E != 0) = true := by simp [hE0]
            have HRE : Hid (R = (D2, E)) := by
              have := HST.out
              simp only [if_true] at this
              rwa [if_neg hE0] at this
            go_wp2_with (first
              | (go_at_fn g; refine HCALL.out.mono ?_; rintro e w2 ⟨rfl, hm2⟩; have HM2 := Lib.hid hm2; clear hm2)
              | (go_at_call 80
                 refine (remove_any F' d D' nm _ (HD.out.mod0 HM2.out) HOK.out (by omega)).mono ?_
                 rw [HE.out, HD2.out]
                 rintro e w3 ⟨rfl, F3, hd3, hm3, hF3⟩
                 have HD3 := Lib.hid hd3
                 have HM3 := Lib.hid hm3
                 have HF3 := Lib.hid hF3
                 clear hd3 hm3 hF3)
              | fail)
            go_ret
            rw [HRE.out]
            refine ⟨rfl, F3, HD3.out, ((HM1.out.non.trans HMR.out fun k hk => .inl hk).trans0 HM2.out).trans HM3.out fun k hk => (HNO.out k hk).imp id fun h => by omega, fun k hk => ?_⟩
            rcases HF3.out k hk with h | h
            · exact (HNO.out k h).imp id fun h => by omega
            · have h1 := HMR.out.size
              have h2 := HM2.out.size
              exact .inr (by omega)
    · obtain rfl : j = nn := by omega
      go_wp2_with fail
      go_ret
      have he := HS.out.eq
      rw [List.drop_of_length_le (by rw [HNL.out]; omega), sweepL] at he
      rw [← he]
      exact ⟨rfl, F', HD.out, HM1.out.non.trans HMR.out fun k hk => .inl hk, fun k hk => (HS.out.far k hk).imp id fun h => by omega⟩

set_option maxRecDepth 100000 in
set_option maxHeartbeats 400000 in
theorem table_any (n : Int) (w : World) (hL : Lay w) : Calls Tryz.prog 25 #[.int .i64 n] w fun e w' => e = .returned (.string (foldN tabP n)) ∧ Mod Non w w' := by
  have HN := Lib.hid (fold_any tabP n w hL (by decide))
  unfold tabP at HN ⊢
  clear hL
  go_enter Tryz.func25, Tryz.ntmps25
  go_wp2_with (go_at_call 36; refine HN.out.mono ?_; rintro e w1 ⟨rfl, hm⟩)
  go_ret
  exact ⟨rfl, hm⟩

end Go.Proofs.YtdpjnpjmokncdaaGreatDoor

/- package cat: the closures of Save and Clean. -/
namespace Go.Proofs.YtdpjnpjmokncdaaGreatDoor
open Go.RowKit

theorem beq_str (a b : ByteArray) : (a.toList == b.toList) = decide (a = b) := by
  by_cases h : a = b
  · subst h; simp
  · rw [decide_eq_false h, beq_eq_false_iff_ne]
    intro e
    rw [ByteArray.toList_eq, ByteArray.toList_eq] at e
    exact h (ByteArray.ext (Array.ext' e))
theorem bne_str (a b : ByteArray) : (a.toList != b.toList) = decide (a ≠ b) := by
  have h := beq_str a b
  by_cases e : a = b <;> simp [bne, h, e]

theorem shad_list : shadN.toList = [99, 117, 114, 126] := by rw [ByteArray.toList_eq]; rfl

set_option maxRecDepth 100000 in
set_option maxHeartbeats 400000 in
theorem so1_any (own nm : ByteArray) (bx : Nat) (w : World) (hb : w.cell? ⟨bx, 0, none⟩ = some (.string own)) :
    Calls Tryz.prog 39 #[.string nm, .pointer (some ⟨bx, 0, none⟩)] w fun e w' => e = .returned (.bool (soOwn own nm)) ∧ Mod Non w w' := by
  obtain ⟨s, hs⟩ : ∃ s, soOwn own nm = s := ⟨_, rfl⟩
  rw [hs]
  unfold soOwn at hs
  rw [← beq_str, ← beq_str, shad_list] at hs
  obtain ⟨q1, hq1⟩ : ∃ q, (nm.toList == [99, 117, 114, 126]) = q := ⟨_, rfl⟩
  obtain ⟨q2, hq2⟩ : ∃ q, (nm.toList == own.toList) = q := ⟨_, rfl⟩
  rw [hq1, hq2] at hs
  have HS := Lib.hid hs
  clear hs
  cases q1
  all_goals
    cases q2
    all_goals
      go_enter Tryz.func39, Tryz.ntmps39
      go_wp2_with fail
      go_ret
      exact ⟨by rw [← HS.out]; rfl, Mod.refl _ _⟩

set_option maxRecDepth 100000 in
set_option maxHeartbeats 400000 in
theorem so2_any (own nm : ByteArray) (bx : Nat) (w : World) (hb : w.cell? ⟨bx, 0, none⟩ = some (.string own)) (hL : Lay w) (hE : Errs w) (h1 : 1 ≤ nm.size) (h2 : nm.size ≤ 200) :
    Calls Tryz.prog 42 #[.string nm, .pointer (some ⟨bx, 0, none⟩)] w fun e w' => e = .returned (.bool (soOld own nm)) ∧ Mod Non w w' := by
  have HN := Lib.hid (catNum_any manP nm w hL hE (by decide) h1 h2)
  unfold manP at HN
  obtain ⟨s, hs⟩ : ∃ s, soOld own nm = s := ⟨_, rfl⟩
  rw [hs]
  unfold soOld at hs
  rw [← bne_str] at hs
  obtain ⟨q2, hq2⟩ : ∃ q, (nm.toList != own.toList) = q := ⟨_, rfl⟩
  rw [hq2] at hs
  have HS := Lib.hid hs
  have HB := Lib.hid hb
  clear hs hL hE hb
  cases hq : numF manP nm with
  | none =>
    have HQ : Hid (s = false) := by { show s = false; rw [← HS.out, hq]; rfl }
    have HP : Hid (∀ e w', NuPost ⟨#[109, 97, 110, 47]⟩ nm w e w' → ∃ x, e = .returned (.tuple #[.int .i64 x, .bool false]) ∧ Mod Non w w') := by
      rintro e w' ⟨x, b, rfl, hm, hv⟩
      have hq' : numF ⟨#[109, 97, 110, 47]⟩ nm = none := hq
      rw [hq'] at hv
      simp only at hv
      subst hv
      exact ⟨x, rfl, hm⟩
    clear hq
    go_enter Tryz.func42, Tryz.ntmps42
    go_wp2_with (go_at_call 43; refine HN.out.mono ?_; rintro e w1 hp; obtain ⟨x, rfl, hm⟩ := HP.out e w1 hp; have HM := Lib.hid hm; clear hp hm)
    go_ret
    exact ⟨by rw [HQ.out]; rfl, HM.out⟩
  | some v =>
    have HQ : Hid (s = q2) := by { show s = q2; rw [← HS.out, hq]; rfl }
    have HP : Hid (∀ e w', NuPost ⟨#[109, 97, 110, 47]⟩ nm w e w' → e = .returned (.tuple #[.int .i64 v, .bool true]) ∧ Mod Non w w') := by
      rintro e w' ⟨x, b, rfl, hm, hv⟩
      have hq' : numF ⟨#[109, 97, 110, 47]⟩ nm = some v := hq
      rw [hq'] at hv
      simp only at hv
      obtain ⟨rfl, rfl⟩ := hv
      exact ⟨rfl, hm⟩
    clear hq
    go_enter Tryz.func42, Tryz.ntmps42
    go_wp2_with (go_at_call 43; refine HN.out.mono ?_; rintro e w1 hp; obtain ⟨rfl, hm⟩ := HP.out e w1 hp; have HM := Lib.hid hm; have cb1 : w1.cell? ⟨bx, 0, none⟩ = some (.string own) := hm.cell HB.out (fun h => h); clear hp hm)
    go_ret
    exact ⟨by rw [HQ.out, ← hq2]; rfl, HM.out⟩

set_option maxRecDepth 100000 in
set_option maxHeartbeats 400000 in
theorem soM_any (x : Mw) (k : Int) (bx : Nat) (w : World) (hb : w.cell? ⟨bx, 0, none⟩ = some (.int .i64 k)) :
    Calls Tryz.prog 58 #[x.val, .pointer (some ⟨bx, 0, none⟩)] w fun e w' => e = .returned (.bool (decide (x.m.num = k))) ∧ Mod Non w w' := by
  obtain ⟨⟨num, level, count, first, last⟩, YA, ca, YB, cb⟩ := x
  unfold Mw.val
  simp only
  have hbl := World.block_lt_of_cell? w _ hb
  simp only at hbl
  have hm : Mod Non w (w.alloc (.cells #[.int .i64 num, .int .i64 level, .int .i64 count, .slice YA first.length ca, .slice YB last.length cb] 95)) := (Mod.refl Non w).alloc _
  have c1 : (w.alloc (.cells #[.int .i64 num, .int .i64 level, .int .i64 count, .slice YA first.length ca, .slice YB last.length cb] 95)).cell? ⟨bx, 0, none⟩ = some (.int .i64 k) := hm.cell hb fun h => h
  have HM := Lib.hid hm
  have hq : ((num : Int) == k) = decide (num = k) := by
    by_cases h : num = k <;> simp [h]
  have HQ := Lib.hid hq
  clear hm hq
  go_enter Tryz.func58, Tryz.ntmps58
  go_wp2_with fail
  go_ret
  exact ⟨by rw [← HQ.out]; first | rfl | simp, HM.out⟩

set_option maxRecDepth 100000 in
set_option maxHeartbeats 1000000 in
theorem idxM_any (A : Option Addr) (n c : Nat) (ms : List Mw) (k : Int) (bx : Nat) (w : World) (hr : Rd w A (n * 5) (ms.flatMap Mw.cells)) (hl : ms.length = n) (hn : n ≤ 9223372036854775807) (hb : w.cell? ⟨bx, 0, none⟩ = some (.int .i64 k)) :
    Calls Tryz.prog 94 #[.slice A n c, .func (.func 58) #[] #[.pointer (some ⟨bx, 0, none⟩)]] w fun e w' =>
      ∃ i : Int, e = .returned (.int .i64 i) ∧ decide (0 ≤ i) = (ms.any fun x => decide (x.m.num = k)) ∧ -1 ≤ i ∧ i ≤ 9223372036854775807 ∧ Mod Non w w' := by
  have HR := Lib.hid hr
  have HL := Lib.hid hl
  have HB := Lib.hid hb
  clear hr hl hb
  go_enter Tryz.func94, Tryz.ntmps94
  go_wp2_with fail
  go_loopw [8] (fun i wr => ∃ (j : Nat), j ≤ n ∧ i = .int .i64 j ∧ Hid (Mod Non w wr) ∧ Hid (∀ x ∈ ms.take j, decide (x.m.num = k) = false)) (fun i _ => n - (intOf i).toNat)
  case atStart => exact ⟨0, Nat.zero_le _, rfl, Mod.refl _ _, fun x hx => by simp at hx⟩
  case round =>
    obtain ⟨j, hj, rfl, HM, HA⟩ := hrel
    by_cases hlt : j < n
    · obtain ⟨b, o, y, rfl, hy, g0, g1, g2, g3, g4⟩ := (HR.out.mod0 HM.out).mw HL.out hlt
      have i1 : (0 : Int) ≤ (j : Int) := by omega
      have i2 : (j : Int) < (n : Int) := by omega
      have hcb := HM.out.cell HB.out fun h => h
      have HC := Lib.hid (soM_any y k bx wr hcb)
      have HY := Lib.hid hy
      obtain ⟨q, hq⟩ : ∃ q, decide (y.m.num = k) = q := ⟨_, rfl⟩
      rw [hq] at HC
      have HQ := Lib.hid hq
      clear hy hcb hq
      obtain ⟨⟨num, level, count, first, last⟩, YA, ca, YB, cb⟩ := y
      simp only at g0 g1 g2 g3 g4 HQ
      unfold Mw.val at HC
      simp only at HC
      obtain ⟨n1, hn1⟩ : ∃ n1, first.length = n1 := ⟨_, rfl⟩
      obtain ⟨n2, hn2⟩ : ∃ n2, last.length = n2 := ⟨_, rfl⟩
      rw [hn1] at g3 HC
      rw [hn2] at g4 HC
      clear hn1 hn2
      cases q with
      | true =>
        go_wp2_with (first
          | (go_at_call 58; refine HC.out.mono ?_; rintro e w2 ⟨rfl, hm2⟩; have HM2 := Lib.hid hm2; clear hm2)
          | fail)
        go_ret
        refine ⟨(j : Int), rfl, ?_, by omega, by omega, HM.out.trans0 HM2.out⟩
        rw [decide_eq_true i1]
        symm
        rw [List.any_eq_true]
        exact ⟨_, List.mem_of_getElem? HY.out, HQ.out⟩
      | false =>
        go_wp2_with (first
          | (go_at_call 58; refine HC.out.mono ?_; rintro e w2 ⟨rfl, hm2⟩; have HM2 := Lib.hid hm2; clear hm2)
          | fail)
        go_roundw
        case rel =>
          refine ⟨j + 1, by omega, by go_num, HM.out.trans0 HM2.out, ?_⟩
          show ∀ x ∈ ms.take (j + 1), _
          intro x hx
          rw [List.take_add_one, HY.out] at hx
          rcases List.mem_append.1 hx with hx | hx
          · exact HA.out x hx
          · simp only [Option.toList_some, List.mem_singleton] at hx
            rw [hx]; exact HQ.out
        case measure => simp [intOf]; omega
    · obtain rfl : j = n := by omega
      go_wp2_with fail
      go_ret
      refine ⟨-1, rfl, ?_, by omega, by omega, HM.out⟩
      symm
      rw [show decide ((0 : Int) ≤ -1) = false from rfl]
      rw [List.any_eq_false]
      intro x hx
      have := HA.out x (by rw [List.take_of_length_le (by rw [HL.out]; omega)]; exact hx)
      rw [this]; simp

set_option maxRecDepth 100000 in
set_option maxHeartbeats 400000 in
theorem contM_any (A : Option Addr) (n c : Nat) (ms : List Mw) (k : Int) (bx : Nat) (w : World) (hr : Rd w A (n * 5) (ms.flatMap Mw.cells)) (hl : ms.length = n) (hn : n ≤ 9223372036854775807) (hb : w.cell? ⟨bx, 0, none⟩ = some (.int .i64 k)) :
    Calls Tryz.prog 57 #[.slice A n c, .func (.func 58) #[] #[.pointer (some ⟨bx, 0, none⟩)]] w fun e w' =>
      e = .returned (.bool (ms.any fun x => decide (x.m.num = k))) ∧ Mod Non w w' := by
  have HI := Lib.hid (idxM_any A n c ms k bx w hr hl hn hb)
  obtain ⟨q, hq⟩ : ∃ q, (ms.any fun x => decide (x.m.num = k)) = q := ⟨_, rfl⟩
  rw [hq] at HI ⊢
  clear hq hr hl hn hb
  go_enter Tryz.func57, Tryz.ntmps57
  go_wp2_with (go_at_call 94; refine HI.out.mono ?_; rintro e w1 ⟨i, rfl, hi, hi1, hi2, hm⟩; have HI2 := Lib.hid hi; have HM := Lib.hid hm; clear hi hm)
  go_ret
  rw [← HI2.out]
  exact ⟨rfl, HM.out⟩

end Go.Proofs.YtdpjnpjmokncdaaGreatDoor

/- package cat: the closure of Clean. -/
namespace Go.Proofs.YtdpjnpjmokncdaaGreatDoor
open Go.RowKit

/-- number's answer where it is one, and where it is none. -/
theorem nu_some {p nm : ByteArray} {w : World} {v : Int} (h : numF p nm = some v) {e : Ending} {w' : World} (hp : NuPost p nm w e w') : e = .returned (.tuple #[.int .i64 v, .bool true]) ∧ Mod Non w w' := by
  obtain ⟨x, b, rfl, hm, hv⟩ := hp
  rw [h] at hv
  simp only at hv
  obtain ⟨rfl, rfl⟩ := hv
  exact ⟨rfl, hm⟩
theorem nu_none {p nm : ByteArray} {w : World} (h : numF p nm = none) {e : Ending} {w' : World} (hp : NuPost p nm w e w') : ∃ x, e = .returned (.tuple #[.int .i64 x, .bool false]) ∧ Mod Non w w' := by
  obtain ⟨x, b, rfl, hm, hv⟩ := hp
  rw [h] at hv
  simp only at hv
  subst hv
  exact ⟨x, rfl, hm⟩

set_option maxRecDepth 100000 in
set_option maxHeartbeats 2000000 in
theorem so3_any (x : Vw) (nm : ByteArray) (bv : Nat) (w : World) (hb : Blk w bv 34 #[.int .i64 x.gen, .int .i64 x.next, .int .i64 x.log, .int .i64 x.seq, .slice x.A x.ms.length x.c]) (h : VwOk w x) (hL : Lay w) (hE : Errs w) (h1 : 1 ≤ nm.size) (h2 : nm.size ≤ 200) :
    Calls Tryz.prog 56 #[.string nm, .pointer (some ⟨bv, 0, none⟩)] w fun e w' => e = .returned (.bool (cleanSo x.v nm)) ∧ Mod Non w w' := by
  obtain ⟨gen, next, log, seq, A, c, ms⟩ := x
  obtain ⟨n, hn⟩ : ∃ n, ms.length = n := ⟨_, rfl⟩
  simp only at hb
  obtain ⟨hrow, hnc, hcm, -⟩ := h
  simp only at hrow hnc hcm
  rw [hn] at hb hrow hnc
  obtain ⟨r, hr⟩ : ∃ r, cleanSo (Vw.v ⟨gen, next, log, seq, A, c, ms⟩) nm = r := ⟨_, rfl⟩
  rw [hr]
  unfold cleanSo at hr
  have hgen : (Vw.v ⟨gen, next, log, seq, A, c, ms⟩).gen = gen := rfl
  have hlog : (Vw.v ⟨gen, next, log, seq, A, c, ms⟩).log = log := rfl
  have htab : (Vw.v ⟨gen, next, log, seq, A, c, ms⟩).tables = ms.map (·.m) := rfl
  rw [hgen, hlog, htab] at hr
  clear hgen hlog htab
  have HB := Lib.hid hb
  have HROW := Lib.hid hrow
  have HL := Lib.hid hL
  have HE := Lib.hid hE
  have HNN := Lib.hid hn
  have hcall : ∀ (p : ByteArray) W, Mod Non w W → p.size ≤ 100 → Calls Tryz.prog 43 #[.string p, .string nm] W (NuPost p nm W) := fun p W hW hp => catNum_any p nm W (HL.out.mod0 hW) (HE.out.mod0 hW) hp h1 h2
  have HCALL := Lib.hid hcall
  clear hb hrow hL hE hcall hn
  cases hq1 : numF manP nm with
  | some g =>
    rw [hq1] at hr
    simp only at hr
    have hne : ((g : Int) != gen) = decide (g ≠ gen) := by by_cases h : g = gen <;> simp [h]
    rw [← hne] at hr
    have HR := Lib.hid hr
    have HP : Hid (∀ e w', NuPost ⟨#[109, 97, 110, 47]⟩ nm w e w' → e = .returned (.tuple #[.int .i64 g, .bool true]) ∧ Mod Non w w') := fun e w' => nu_some hq1
    clear hq1 hr hne
    go_enter Tryz.func56, Tryz.ntmps56
    go_wp2_with (go_at_call 43; refine (HCALL.out ⟨#[109, 97, 110, 47]⟩ w (Mod.refl _ _) (by decide)).mono ?_; rintro e w1 hp; obtain ⟨rfl, hm⟩ := HP.out e w1 hp; have HM := Lib.hid hm; have cb1 : w1.cell? ⟨bv, 0, none⟩ = some (.int .i64 gen) := (HB.out.mod hm fun h => h).cell 0; clear hp hm)
    go_ret
    exact ⟨by rw [← HR.out]; rfl, HM.out⟩
  | none =>
    rw [hq1] at hr
    simp only at hr
    have HP : Hid (∀ e w', NuPost ⟨#[109, 97, 110, 47]⟩ nm w e w' → ∃ x, e = .returned (.tuple #[.int .i64 x, .bool false]) ∧ Mod Non w w') := fun e w' => nu_none hq1
    clear hq1
    cases hq2 : numF tabP nm with
    | some t =>
      rw [hq2] at hr
      simp only at hr
      rw [List.any_map] at hr
      have HR := Lib.hid hr
      have HP2 : Hid (∀ W e w', NuPost ⟨#[116, 97, 98, 47]⟩ nm W e w' → e = .returned (.tuple #[.int .i64 t, .bool true]) ∧ Mod Non W w') := fun W e w' => nu_some hq2
      clear hq2 hr
      go_enter Tryz.func56, Tryz.ntmps56
      go_wp2_with fail
      refine (HCALL.out ⟨#[109, 97, 110, 47]⟩ w (Mod.refl _ _) (by decide)).mono ?_
      rintro e w1 hp
      obtain ⟨x1, rfl, hm1⟩ := HP.out e w1 hp
      have HM1 := Lib.hid hm1
      clear hp hm1
      go_wp2_with fail
      refine (HCALL.out ⟨#[116, 97, 98, 47]⟩ w1 HM1.out (by decide)).mono ?_
      rintro e w2 hp
      obtain ⟨rfl, hm2⟩ := HP2.out w1 e w2 hp
      have HM2 := Lib.hid (HM1.out.trans0 hm2)
      have HM3 := Lib.hid ((HM1.out.trans0 hm2).alloc (.cells #[.int .i64 t] 3))
      have cb4 : (w2.alloc (.cells #[.int .i64 t] 3)).cell? ⟨bv, 4, none⟩ = some (.slice A n c) := (HB.out.mod HM3.out fun h => h).cell 4
      have HC := Lib.hid (contM_any A n c ms t w2.heap.size (w2.alloc (.cells #[.int .i64 t] 3)) (HROW.out.mod0 HM3.out) HNN.out (by omega) ((Blk.new w2 3 #[.int .i64 t]).cell 0))
      clear hp hm2
      obtain ⟨q, hq⟩ : ∃ q, (ms.any fun x => decide (x.m.num = t)) = q := ⟨_, rfl⟩
      rw [hq] at HC
      have HQ : Hid ((!q) = r) := by { show (!q) = r; rw [← HR.out, ← hq]; rfl }
      clear hq
      go_wp2_with fail
      refine HC.out.mono ?_
      rintro e w4 ⟨rfl, hm4⟩
      have HM4 := Lib.hid (HM3.out.trans0 hm4)
      clear hm4
      go_wp2_with fail
      go_ret
      exact ⟨by rw [← HQ.out]; rfl, HM4.out⟩
    | none =>
      rw [hq2] at hr
      simp only at hr
      have HP2 : Hid (∀ W e w', NuPost ⟨#[116, 97, 98, 47]⟩ nm W e w' → ∃ x, e = .returned (.tuple #[.int .i64 x, .bool false]) ∧ Mod Non W w') := fun W e w' => nu_none hq2
      clear hq2
      obtain ⟨qs, hqs⟩ : ∃ q, (nm.toList == [99, 117, 114, 126]) = q := ⟨_, rfl⟩
      have hsh : decide (nm = shadN) = qs := by rw [← beq_str, shad_list, hqs]
      rw [hsh] at hr
      clear hsh
      cases hq3 : numF logP nm with
      | some l =>
        rw [hq3] at hr
        simp only at hr
        obtain ⟨ql, hql⟩ : ∃ q, decide (l < log) = q := ⟨_, rfl⟩
        rw [hql] at hr
        have HR := Lib.hid hr
        have HP3 : Hid (∀ W e w', NuPost ⟨#[119, 97, 108, 47]⟩ nm W e w' → e = .returned (.tuple #[.int .i64 l, .bool true]) ∧ Mod Non W w') := fun W e w' => nu_some hq3
        clear hq3 hr
        cases qs
        all_goals
          go_enter Tryz.func56, Tryz.ntmps56
          go_wp2_with fail
          refine (HCALL.out ⟨#[109, 97, 110, 47]⟩ w (Mod.refl _ _) (by decide)).mono ?_
          rintro e w1 hp
          obtain ⟨x1, rfl, hm1⟩ := HP.out e w1 hp
          have HM1 := Lib.hid hm1
          clear hp hm1
          go_wp2_with fail
          refine (HCALL.out ⟨#[116, 97, 98, 47]⟩ w1 HM1.out (by decide)).mono ?_
          rintro e w2 hp
          obtain ⟨x2, rfl, hm2⟩ := HP2.out w1 e w2 hp
          have HM2 := Lib.hid (HM1.out.trans0 hm2)
          have HM3 := Lib.hid ((HM1.out.trans0 hm2).alloc (.cells #[.int .i64 x2] 3))
          clear hp hm2
          go_wp2_with fail
          refine (HCALL.out ⟨#[119, 97, 108, 47]⟩ _ HM3.out (by decide)).mono ?_
          rintro e w4 hp
          obtain ⟨rfl, hm4⟩ := HP3.out _ e w4 hp
          have HM4 := Lib.hid (HM3.out.trans0 hm4)
          have cb2 : w4.cell? ⟨bv, 2, none⟩ = some (.int .i64 log) := (HB.out.mod HM4.out fun h => h).cell 2
          clear hp hm4
          go_wp2_with fail
          go_ret
          exact ⟨by rw [← HR.out]; rfl, HM4.out⟩
      | none =>
        rw [hq3] at hr
        simp only [Bool.or_false] at hr
        subst hr
        have HP3 : Hid (∀ W e w', NuPost ⟨#[119, 97, 108, 47]⟩ nm W e w' → ∃ x, e = .returned (.tuple #[.int .i64 x, .bool false]) ∧ Mod Non W w') := fun W e w' => nu_none hq3
        clear hq3
        cases qs
        all_goals
          go_enter Tryz.func56, Tryz.ntmps56
          go_wp2_with fail
          refine (HCALL.out ⟨#[109, 97, 110, 47]⟩ w (Mod.refl _ _) (by decide)).mono ?_
          rintro e w1 hp
          obtain ⟨x1, rfl, hm1⟩ := HP.out e w1 hp
          have HM1 := Lib.hid hm1
          clear hp hm1
          go_wp2_with fail
          refine (HCALL.out ⟨#[116, 97, 98, 47]⟩ w1 HM1.out (by decide)).mono ?_
          rintro e w2 hp
          obtain ⟨x2, rfl, hm2⟩ := HP2.out w1 e w2 hp
          have HM2 := Lib.hid (HM1.out.trans0 hm2)
          have HM3 := Lib.hid ((HM1.out.trans0 hm2).alloc (.cells #[.int .i64 x2] 3))
          clear hp hm2
          go_wp2_with fail
          refine (HCALL.out ⟨#[119, 97, 108, 47]⟩ _ HM3.out (by decide)).mono ?_
          rintro e w4 hp
          obtain ⟨x3, rfl, hm4⟩ := HP3.out _ e w4 hp
          have HM4 := Lib.hid (HM3.out.trans0 hm4)
          clear hp hm4
          go_wp2_with fail
          go_ret
          exact ⟨rfl, HM4.out⟩

end Go.Proofs.YtdpjnpjmokncdaaGreatDoor

/- cat.Clean. -/
namespace Go.Proofs.YtdpjnpjmokncdaaGreatDoor
open Go.RowKit

set_option maxRecDepth 100000 in
set_option maxHeartbeats 4000000 in
theorem clean_any (F : Nat → Prop) (d : Nat) (D : Dk) (x : Vw) (w : World) (h : DiskIs w F d D) (ok : DkOk D) (hx : ∀ w', Mod F w w' → VwOk w' x) (hE : ∀ w', Mod F w w' → Errs w') :
    Calls Tryz.prog 20 #[.pointer (some ⟨d, 0, none⟩), x.val] w (DkPost F d (cleanD D x.v).1 (.int .i64 (cleanD D x.v).2) w) := by
  have hflt : ∀ k, F k → k < w.heap.size := by obtain ⟨_, _, _, _, _, _, _, _, h6⟩ := h; exact h6
  have hpow : ¬ F powG := by obtain ⟨_, _, _, _, _, _, _, h6, _⟩ := h; exact h6
  obtain ⟨X, hX⟩ : ∃ X, x = X := ⟨_, rfl⟩
  rw [hX] at hx
  have HX := Lib.hid hx
  obtain ⟨gen, next, log, seq, A, c, ms⟩ := x
  obtain ⟨n, hn⟩ : ∃ n, ms.length = n := ⟨_, rfl⟩
  obtain ⟨V, hV⟩ : ∃ V, Vw.v ⟨gen, next, log, seq, A, c, ms⟩ = V := ⟨_, rfl⟩
  have hXV : X.v = V := by rw [← hX]; exact hV
  have hXB : (#[.int .i64 gen, .int .i64 next, .int .i64 log, .int .i64 seq, .slice A n c] : Array Value) = #[.int .i64 X.gen, .int .i64 X.next, .int .i64 X.log, .int .i64 X.seq, .slice X.A X.ms.length X.c] := by rw [← hX]; simp only; rw [hn]
  have hck : ∀ W, Mod Non w W → Calls Tryz.prog 22 #[.agg #[.int .i64 gen, .int .i64 next, .int .i64 log, .int .i64 seq, .slice A n c]] W fun e w' => e = .returned (.int .i64 (if checkV V = true then 0 else 1)) ∧ Mod Non W w' := fun W hW => by
    have := check_any ⟨gen, next, log, seq, A, c, ms⟩ W (by rw [hX]; exact hx W hW.non)
    unfold Vw.val at this
    simp only at this
    rw [hn, hV] at this
    exact this
  have HXV := Lib.hid hXV
  have HXB := Lib.hid hXB
  have HCK := Lib.hid hck
  have HD := Lib.hid h
  have HO := Lib.hid ok
  have HE := Lib.hid hE
  have HFLT := Lib.hid hflt
  have HPOW := Lib.hid hpow
  obtain ⟨R, hR⟩ : ∃ R, cleanD D V = R := ⟨_, rfl⟩
  have HR := Lib.hid hR
  rw [hV, hR]
  unfold Vw.val
  simp only
  rw [hn]
  have HMA := Lib.hid ((Mod.refl Non w).alloc (.cells #[.int .i64 gen, .int .i64 next, .int .i64 log, .int .i64 seq, .slice A n c] 34))
  have hbx : ∀ W, Mod Non (w.alloc (.cells #[.int .i64 gen, .int .i64 next, .int .i64 log, .int .i64 seq, .slice A n c] 34)) W → Blk W w.heap.size 34 #[.int .i64 gen, .int .i64 next, .int .i64 log, .int .i64 seq, .slice A n c] := fun W hW => (Blk.new w _ _).mod hW fun h => h
  have HBW := Lib.hid hbx
  clear hck hV hn hx h ok hE hbx hR hflt hX hXV hXB hpow
  have HN := Lib.hid (noneC_any F d D _ (HD.out.mod0 HMA.out) HO.out)
  by_cases hcv : checkV V = true
  · rw [if_pos hcv] at HCK
    have HR1 : Hid (R = sweepD (cleanSo V) D) := by
      show R = _
      rw [← HR.out]
      unfold cleanD
      rw [if_pos hcv]
    clear hcv HR
    go_enter Tryz.func20, Tryz.ntmps20
    go_wp2_with fail
    refine HN.out.mono ?_
    rintro e w1 ⟨rfl, hm1⟩
    have HM1 := Lib.hid hm1
    have hb := HBW.out _ HM1.out
    have y0 : w1.cell? ⟨w.heap.size, 0, none⟩ = some (.int .i64 gen) := hb.cell 0
    have y1 : w1.cell? ⟨w.heap.size, 1, none⟩ = some (.int .i64 next) := hb.cell 1
    have y2 : w1.cell? ⟨w.heap.size, 2, none⟩ = some (.int .i64 log) := hb.cell 2
    have y3 : w1.cell? ⟨w.heap.size, 3, none⟩ = some (.int .i64 seq) := hb.cell 3
    have y4 : w1.cell? ⟨w.heap.size, 4, none⟩ = some (.slice A n c) := hb.cell 4
    clear hm1 hb
    go_wp2_with fail
    refine (HCK.out w1 (HMA.out.trans0 HM1.out)).mono ?_
    rintro e w2 ⟨rfl, hm2⟩
    have HM2 := Lib.hid (HM1.out.trans0 hm2)
    have HMW := Lib.hid (HMA.out.trans0 (HM1.out.trans0 hm2))
    clear hm2 y0 y1 y2 y3 y4
    have hnF : ¬ F w.heap.size := fun h => by have := HFLT.out _ h; omega
    have hso : ∀ W nm, Mod F w2 W → 1 ≤ nm.size → nm.size ≤ 100 → Calls Tryz.prog 56 (#[.string nm] ++ #[.pointer (some ⟨w.heap.size, 0, none⟩)]) W fun e w' => e = .returned (.bool (cleanSo V nm)) ∧ Mod Non W w' := fun W nm hW hn1 hn2 => by
      have hmw : Mod F w W := HMW.out.non.trans hW fun k hk => .inl hk
      have hb := (HBW.out _ HM2.out).mod hW hnF
      rw [HXB.out] at hb
      have := so3_any X nm w.heap.size W hb (HX.out W hmw) (HD.out.lay.mod hmw HPOW.out) (HE.out W hmw) hn1 (by omega)
      rw [HXV.out] at this
      exact this
    have HSO := Lib.hid hso
    clear hso
    go_wp2_with fail
    refine (sweep_any F d D _ (HD.out.mod0 HMW.out) HO.out 56 #[.pointer (some ⟨w.heap.size, 0, none⟩)] (cleanSo V) (enters_of Tryz.func56 (by kernel_rfl) rfl) HSO.out).mono ?_
    obtain ⟨⟨D1, E1⟩, hP1⟩ : ∃ P, sweepD (cleanSo V) D = P := ⟨_, rfl⟩
    have HR2 : Hid (R = (D1, E1)) := by
      show R = _
      rw [HR1.out, hP1]
    rw [hP1]
    simp only
    clear hP1 HR1
    rintro e w3 ⟨rfl, F3, hd3, hm3, hF3⟩
    have HD3 := Lib.hid hd3
    have HM3 := Lib.hid hm3
    have HF3 := Lib.hid hF3
    clear hd3 hm3 hF3
    go_wp2_with fail
    go_ret
    rw [HR2.out]
    exact ⟨rfl, F3, HD3.out, HMW.out.non.trans HM3.out fun k hk => .inl hk, fun k hk => (HF3.out k hk).imp id fun h => by have := HMW.out.size; omega⟩
  · rw [if_neg hcv] at HCK
    have HR1 : Hid (R = (D, 1)) := by
      show R = _
      rw [← HR.out]
      unfold cleanD
      rw [if_neg hcv]
    clear hcv HR
    go_enter Tryz.func20, Tryz.ntmps20
    go_wp2_with fail
    refine HN.out.mono ?_
    rintro e w1 ⟨rfl, hm1⟩
    have HM1 := Lib.hid hm1
    have hb := HBW.out _ HM1.out
    have y0 : w1.cell? ⟨w.heap.size, 0, none⟩ = some (.int .i64 gen) := hb.cell 0
    have y1 : w1.cell? ⟨w.heap.size, 1, none⟩ = some (.int .i64 next) := hb.cell 1
    have y2 : w1.cell? ⟨w.heap.size, 2, none⟩ = some (.int .i64 log) := hb.cell 2
    have y3 : w1.cell? ⟨w.heap.size, 3, none⟩ = some (.int .i64 seq) := hb.cell 3
    have y4 : w1.cell? ⟨w.heap.size, 4, none⟩ = some (.slice A n c) := hb.cell 4
    clear hm1 hb
    go_wp2_with fail
    refine (HCK.out w1 (HMA.out.trans0 HM1.out)).mono ?_
    rintro e w2 ⟨rfl, hm2⟩
    have HMW := Lib.hid (HMA.out.trans0 (HM1.out.trans0 hm2))
    clear hm2 y0 y1 y2 y3 y4
    go_wp2_with fail
    go_ret
    rw [HR1.out]
    exact ⟨rfl, F, HD.out.mod0 HMW.out, HMW.out.non, fun k hk => .inl hk⟩

set_option maxRecDepth 100000 in
set_option maxHeartbeats 400000 in
theorem clean_nil (x : Vw) (w : World) : Calls Tryz.prog 20 #[.pointer none, x.val] w fun e w' => e = .returned (.int .i64 1) ∧ Mod Non w w' := by
  obtain ⟨gen, next, log, seq, A, c, ms⟩ := x
  obtain ⟨n, hn⟩ : ∃ n, ms.length = n := ⟨_, rfl⟩
  unfold Vw.val
  simp only
  rw [hn]
  have HN := Lib.hid (noneC_nil (w.alloc (.cells #[.int .i64 gen, .int .i64 next, .int .i64 log, .int .i64 seq, .slice A n c] 34)))
  clear hn
  go_enter Tryz.func20, Tryz.ntmps20
  go_wp2_with (go_at_call 32; refine HN.out.mono ?_; rintro e w1 ⟨rfl, rfl⟩)
  go_ret
  exact ⟨rfl, (Mod.refl _ _).alloc _⟩

end Go.Proofs.YtdpjnpjmokncdaaGreatDoor
