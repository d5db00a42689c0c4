/- Which files a disk has behind an Add, a Drop. Plain. -/
import Derived.Test.YtgdamcimpgapgaaGreatDoorM22
import Derived.Test.YtgdamcimpgapgaaGreatDoorM16
import Derived.Test.YtgdamcimpgapgaaGreatDoorM25
import Derived.Test.YtgdamcimpgapgaaGreatDoorM31
import Derived.BigQuiet
import Derived.Deep.QuietTactic
namespace Go.Proofs.YtgdamcimpgapgaaGreatDoor
open Go.RowKit

theorem append_names (D : Dk) (nm : ByteArray) (b : List UInt8) : ∀ f ∈ (appendD D nm b).files, f.name = nm ∨ f.name ∈ D.files.map (·.name) := by
  intro f hf
  unfold appendD at hf
  split at hf
  · split at hf
    · rcases mem_put hf with rfl | hf
      · exact .inl (fileA_name D nm b)
      · exact .inr (List.mem_map.2 ⟨f, hf, rfl⟩)
    · rw [spendD_files] at hf
      exact .inr (List.mem_map.2 ⟨f, hf, rfl⟩)
  · exact .inr (List.mem_map.2 ⟨f, hf, rfl⟩)
theorem sync_names (D : Dk) (nm : ByteArray) : ∀ f ∈ (syncD D nm).files, f.name = nm ∨ f.name ∈ D.files.map (·.name) := by
  intro f hf
  unfold syncD at hf
  split at hf
  · split at hf
    · exact .inr (List.mem_map.2 ⟨f, hf, rfl⟩)
    · split at hf
      · rcases mem_put hf with rfl | hf
        · exact .inl rfl
        · exact .inr (List.mem_map.2 ⟨f, hf, rfl⟩)
      · rw [spendD_files] at hf
        exact .inr (List.mem_map.2 ⟨f, hf, rfl⟩)
  · exact .inr (List.mem_map.2 ⟨f, hf, rfl⟩)
theorem all_names (nm : ByteArray) (l : List (List UInt8)) : ∀ (s : Dk × Int), ∀ f ∈ (l.foldl (appStep nm) s).1.files, f.name = nm ∨ f.name ∈ s.1.files.map (·.name) := by
  induction l with
  | nil => intro s f hf; exact .inr (List.mem_map.2 ⟨f, hf, rfl⟩)
  | cons b l ih =>
    intro s f hf
    rw [List.foldl_cons] at hf
    rcases ih _ f hf with h | h
    · exact .inl h
    · obtain ⟨g, hg, he⟩ := List.mem_map.1 h
      rw [← he]
      unfold appStep at hg
      split at hg
      · exact append_names _ _ _ g hg
      · exact .inr (List.mem_map.2 ⟨g, hg, rfl⟩)
theorem add_names (D : Dk) (n : Int) (b : List UInt8) : ∀ f ∈ (addB D n b).1.files, f.name = nameW n ∨ f.name ∈ D.files.map (·.name) := by
  intro f hf
  unfold addB at hf
  split at hf
  · split at hf
    · exact .inr (List.mem_map.2 ⟨f, hf, rfl⟩)
    · split at hf
      · exact .inr (List.mem_map.2 ⟨f, hf, rfl⟩)
      · simp only at hf
        split at hf
        · rcases sync_names _ _ f hf with h | h
          · exact .inl h
          · obtain ⟨g, hg, he⟩ := List.mem_map.1 h
            rw [← he]
            exact all_names _ _ _ g hg
        · exact all_names _ _ _ f hf
  · exact .inr (List.mem_map.2 ⟨f, hf, rfl⟩)

/-- A file dropped on a disk that is never cut: only it is gone. -/
theorem drop_calm {D : Dk} (c : Calm D) (ok : DkOk D) {n : Int} (h0 : 0 ≤ n) (h1 : n ≤ 1099511627776) :
    Calm (dropD D n) ∧ (∀ k, k ≠ nameW n → findF (dropD D n).files k = findF D.files k) ∧ ∀ f ∈ (dropD D n).files, f ∈ D.files ∧ f.name ≠ nameW n := by
  have hn := nameW_named h0 h1
  unfold dropD
  rw [if_pos ⟨h0, h1⟩]
  unfold removeD
  rw [if_pos ⟨hn, c.off⟩]
  cases hf : findF D.files (nameW n) with
  | none => exact ⟨c, fun _ _ => rfl, fun f hff => ⟨hff, findF_none hf f hff⟩⟩
  | some f =>
    have hc : 0 ≤ costF f := by unfold costF; omega
    obtain ⟨s0, s1⟩ := spend_calm c (more := -costF f) (by have := ok.u1; omega)
    simp only
    rw [if_pos s0, s1]
    refine ⟨⟨c.off, rfl⟩, fun k hk => findF_del_other (fun e => hk e.symm) _, fun g hg => ⟨mem_del hg, fun e => ?_⟩⟩
    have h3 : g.name ∈ (delF D.files (nameW n)).map (·.name) := List.mem_map.2 ⟨g, hg, rfl⟩
    rw [names_del ok.nd, List.mem_filter] at h3
    simp [e] at h3

/-- one name left. -/
theorem names_single {D : Dk} (ok : DkOk D) {nm : ByteArray} (hall : ∀ f ∈ D.files, f.name = nm) {f : Fl} (hf : findF D.files nm = some f) {L : List ByteArray} (h : NamesAre D L) : L = [nm] := by
  have hm := findF_mem hf
  have hnames : D.files.map (·.name) = [nm] := by
    cases hfs : D.files with
    | nil => rw [hfs] at hm; cases hm
    | cons g r =>
      have hg := hall g (by rw [hfs]; exact .head _)
      cases r with
      | nil => simp [hg]
      | cons k r =>
        have hk := hall k (by rw [hfs]; exact .tail _ (.head _))
        have hnd := ok.nd
        rw [hfs] at hnd
        simp [hg, hk] at hnd
  obtain ⟨ss, hp, rfl⟩ := h
  have e : (D.files.map fun f => f.name.data.toList) = [nm.data.toList] := by
    have := congrArg (List.map fun s : ByteArray => s.data.toList) hnames
    simpa [List.map_map, Function.comp_def] using this
  rw [e] at hp
  rw [List.perm_singleton.1 hp]
  simp

end Go.Proofs.YtgdamcimpgapgaaGreatDoor

/- The names of the files behind Adds; sorted names are rising numbers. Plain. -/
namespace Go.Proofs.YtgdamcimpgapgaaGreatDoor
open Go.RowKit

theorem find_mem_iff {nm : ByteArray} : ∀ {fs : List Fl}, (findF fs nm).isSome = true ↔ nm ∈ fs.map (·.name)
  | [] => by simp [findF]
  | f :: r => by
    rw [findF]
    split
    · rename_i h
      simp [h]
    · rename_i h
      rw [find_mem_iff, List.map_cons, List.mem_cons]
      exact ⟨.inr, fun e => e.resolve_left fun e => h e.symm⟩
theorem grew_len {D D' : Dk} {nm : ByteArray} {bs : List UInt8} {x : Int} (ok : DkOk D) (ok' : DkOk D') (g : Grew D D' nm bs x) :
    D'.files.length = D.files.length + if (findF D.files nm).isSome = true then 0 else 1 := by
  have key : ∀ k, k ∈ D'.files.map (·.name) ↔ k = nm ∨ k ∈ D.files.map (·.name) := by
    intro k
    by_cases hk : k = nm
    · subst hk
      obtain ⟨s, hs⟩ := g.file
      exact ⟨fun _ => .inl rfl, fun _ => find_mem_iff.1 (by rw [hs]; rfl)⟩
    · rw [← find_mem_iff, ← find_mem_iff, g.other k hk]
      exact ⟨.inr, fun e => e.resolve_left hk⟩
  split
  · rename_i h
    have hp : (D'.files.map (·.name)).Perm (D.files.map (·.name)) := (List.perm_ext_iff_of_nodup ok'.nd ok.nd).2 fun k => by
      rw [key]
      exact ⟨fun e => e.elim (fun e => by rw [e]; exact find_mem_iff.1 h) id, .inr⟩
    simpa using hp.length_eq
  · rename_i h
    have hn : (nm :: D.files.map (·.name)).Nodup := List.nodup_cons.2 ⟨fun e => h (find_mem_iff.2 e), ok.nd⟩
    have hp : (D'.files.map (·.name)).Perm (nm :: D.files.map (·.name)) := (List.perm_ext_iff_of_nodup ok'.nd hn).2 fun k => by
      rw [key, List.mem_cons]
    simpa using hp.length_eq

/-- the files are segments, so many. -/
structure NmP (D : Dk) (q cnt : Nat) : Prop where
  ok : DkOk D
  calm : Calm D
  n : D.n = 1099511627776
  used : D.used ≤ 1200000 * (q : Int)
  len : D.files.length = cnt
  names : ∀ f ∈ D.files, ∃ x : Nat, x ≤ 1099511627776 ∧ f.name = walName x
theorem NmP.start : NmP (newD 1099511627776) 0 0 := ⟨newD_ok (by omega) (by omega), ⟨rfl, rfl⟩, rfl, by simp [newD], rfl, by simp [newD]⟩
theorem NmP.later {D : Dk} {q q' cnt : Nat} (h : NmP D q cnt) (hq : q ≤ q') : NmP D q' cnt :=
  ⟨h.ok, h.calm, h.n, by have := h.used; have : (q : Int) ≤ (q' : Int) := by omega
                         omega, h.len, h.names⟩
theorem needx {D : Dk} {n : Int} {b : List UInt8} (hb : b.length ≤ 1048576) : needW D n b ≤ 1200000 := by
  have h1 := frameB_len hb
  have h2 := nameW_size n
  unfold needW
  split <;> omega
theorem NmP.add {D : Dk} {q cnt : Nat} (h : NmP D q cnt) {x : Int} (h0 : 0 ≤ x) (h1 : x ≤ 1099511627776) (hq : q ≤ 100) {b : List UInt8} (hb : b.length ≤ 1048576) :
    (addB D x b).2 = 0 ∧ NmP (addB D x b).1 (q + 1) (cnt + if (findF D.files (nameW x)).isSome = true then 0 else 1) := by
  have hn := needx (D := D) (n := x) hb
  have hu := h.used
  have hN := h.n
  obtain ⟨a, g⟩ := add_grew h.calm h.ok h0 h1 hb (by omega)
  refine ⟨a, add_ok h.ok x b, g.calm, by rw [g.n, hN], by rw [g.used]; push_cast; omega, ?_, fun f hf => ?_⟩
  · rw [grew_len h.ok (add_ok h.ok x b) g, h.len]
  · rcases add_names D x b f hf with e | e
    · exact ⟨x.toNat, by omega, by rw [e, nameW_yes h0 h1]⟩
    · obtain ⟨f', hf', e'⟩ := List.mem_map.1 e
      rw [← e']; exact h.names f' hf'
theorem add_wrong {D : Dk} {n : Int} {b : List UInt8} (h : ¬ (0 ≤ n ∧ n ≤ 1099511627776)) : addB D n b = (D, 1) := by
  unfold addB; rw [if_neg (fun e => h ⟨e.1, e.2.1⟩)]
theorem nameW_17 {x : Int} (h0 : 0 ≤ x) (h1 : x ≤ 1099511627776) : (nameW x).size = 17 := by
  rw [nameW_yes h0 h1, walName_dig (by omega)]
  simp [ByteArray.size, digF_len]
theorem nameW_0 {x : Int} (h : ¬ (0 ≤ x ∧ x ≤ 1099511627776)) : (nameW x).size = 0 := by
  unfold nameW; rw [if_neg h]; rfl

/-- what Names tells of them: as many, rising, there. -/
theorem names_rise {D : Dk} (ok : DkOk D) {L : List ByteArray} (hL : NamesAre D L) {xs : List Nat} (hx : L = xs.map walName) (hb : ∀ x ∈ xs, x ≤ 1099511627776) :
    xs.length = D.files.length ∧ (∀ i a b, xs[i]? = some a → xs[i + 1]? = some b → a < b) ∧ ∀ x ∈ xs, (findF D.files (walName x)).isSome = true := by
  obtain ⟨ss, hp, hLe⟩ := hL
  have hlen : xs.length = D.files.length := by
    have h1 := congrArg List.length hLe
    have h2 := hp.length_eq
    rw [hx] at h1
    simp at h1 h2
    omega
  have hmem : ∀ nm, nm ∈ L ↔ nm ∈ D.files.map (·.name) := by
    intro nm
    rw [hLe]
    constructor
    · intro h
      obtain ⟨l, hl, rfl⟩ := List.mem_map.1 h
      have h2 := hp.mem_iff.1 (List.mem_mergeSort.1 hl)
      obtain ⟨f, hf, he⟩ := List.mem_map.1 h2
      exact List.mem_map.2 ⟨f, hf, by rw [← he]⟩
    · intro h
      obtain ⟨f, hf, rfl⟩ := List.mem_map.1 h
      exact List.mem_map.2 ⟨f.name.data.toList, List.mem_mergeSort.2 (hp.mem_iff.2 (List.mem_map.2 ⟨f, hf, rfl⟩)), rfl⟩
  refine ⟨hlen, ?_, fun x hxx => find_mem_iff.2 ((hmem _).1 (by rw [hx]; exact List.mem_map.2 ⟨x, hxx, rfl⟩))⟩
  have hsort : (ss.mergeSort fun x y => decide (x ≤ y)).Pairwise (fun a b => a ≤ b) := by
    have := List.pairwise_mergeSort (le := fun x y : List UInt8 => decide (x ≤ y)) (fun a b c h1 h2 => by
      simp only [decide_eq_true_eq] at *
      exact List.le_trans h1 h2) (fun a b => by
      simp only [Bool.or_eq_true, decide_eq_true_eq]
      exact List.le_total a b) ss
    exact this.imp fun h => by simpa using h
  have hnd : (ss.mergeSort fun x y => decide (x ≤ y)).Nodup := by
    refine ((List.mergeSort_perm ss _).trans hp).nodup_iff.2 ?_
    have h3 := ok.nd
    have h4 : (D.files.map fun f => f.name.data.toList) = (D.files.map (·.name)).map fun s : ByteArray => s.data.toList := by rw [List.map_map]; rfl
    rw [h4]
    refine List.Pairwise.map _ (fun a b hab e => hab ?_) h3
    have := Array.toList_inj.1 e
    cases a; cases b; simp_all
  have hlist : (ss.mergeSort fun x y => decide (x ≤ y)) = xs.map fun x => (walName x).data.toList := by
    have := congrArg (List.map fun s : ByteArray => s.data.toList) (hLe.symm.trans hx)
    simpa [List.map_map, Function.comp_def] using this
  intro i a b ha hb'
  have hi : i + 1 < xs.length := (List.getElem?_eq_some_iff.1 hb').1
  have ha2 := List.getElem?_eq_some_iff.1 ha
  have hb2 := List.getElem?_eq_some_iff.1 hb'
  obtain ⟨hia, hae⟩ := ha2
  obtain ⟨hib, hbe⟩ := hb2
  rw [hlist] at hsort hnd
  have h1 := List.pairwise_iff_getElem.1 hsort i (i + 1) (by simpa using hia) (by simpa using hib) (by omega)
  have h2 := List.pairwise_iff_getElem.1 hnd i (i + 1) (by simpa using hia) (by simpa using hib) (by omega)
  simp only [List.getElem_map, hae, hbe] at h1 h2
  have hba := hb a (List.mem_of_getElem? ha)
  have hbb := hb b (List.mem_of_getElem? hb')
  rcases Nat.lt_or_ge a b with h | h
  · exact h
  · rcases Nat.lt_or_ge b a with h3 | h3
    · have h5 := (walName_lt hbb hba).2 h3
      exact absurd h5 (by rw [List.not_lt]; exact h1)
    · obtain rfl : a = b := by omega
      exact absurd rfl h2

end Go.Proofs.YtgdamcimpgapgaaGreatDoor

/- The files of a disk in the order of their names, as the reference keeps them. Plain. -/
namespace Go.Proofs.YtgdamcimpgapgaaGreatDoor
open Go.RowKit

def keyF (f : Fl) : List UInt8 := f.name.data.toList
theorem keyF_inj {a b : ByteArray} (h : a.data.toList = b.data.toList) : a = b := by
  have := Array.toList_inj.1 h
  cases a; cases b; simp_all
theorem lt_irrefl' (a : List UInt8) : ¬ a < a := List.lt_irrefl a
/-- L is the files fs, rising by name. -/
structure SortedOf (fs L : List Fl) : Prop where
  perm : L.Perm fs
  sort : L.Pairwise fun a b => keyF a < keyF b
theorem sorted_nodup {L : List Fl} (h : L.Pairwise fun a b => keyF a < keyF b) : (L.map (·.name)).Nodup := by
  refine List.Pairwise.map _ (fun a b hab e => ?_) h
  unfold keyF at hab
  rw [e] at hab
  exact List.lt_irrefl _ hab
theorem find_iff {fs : List Fl} (nd : (fs.map (·.name)).Nodup) {k : ByteArray} {f : Fl} : findF fs k = some f ↔ f ∈ fs ∧ f.name = k := by
  induction fs with
  | nil => simp [findF]
  | cons g r ih =>
    rw [List.map_cons, List.nodup_cons] at nd
    rw [findF]
    split
    · rename_i h
      constructor
      · intro e; cases e; exact ⟨.head _, h⟩
      · rintro ⟨h1, h2⟩
        rcases List.mem_cons.1 h1 with rfl | h1
        · rfl
        · exact absurd (List.mem_map.2 ⟨f, h1, by rw [h2, h]⟩) nd.1
    · rename_i h
      rw [ih nd.2]
      constructor
      · rintro ⟨h1, h2⟩; exact ⟨.tail _ h1, h2⟩
      · rintro ⟨h1, h2⟩
        rcases List.mem_cons.1 h1 with rfl | h1
        · exact absurd h2 h
        · exact ⟨h1, h2⟩
theorem SortedOf.find {fs L : List Fl} (h : SortedOf fs L) (nd : (fs.map (·.name)).Nodup) (k : ByteArray) : findF L k = findF fs k := by
  have h1 := sorted_nodup h.sort
  cases hf : findF fs k with
  | some f =>
    obtain ⟨a, b⟩ := (find_iff nd).1 hf
    exact (find_iff h1).2 ⟨h.perm.mem_iff.2 a, b⟩
  | none =>
    cases hl : findF L k with
    | none => rfl
    | some g =>
      obtain ⟨a, b⟩ := (find_iff h1).1 hl
      have := (find_iff nd).2 ⟨h.perm.mem_iff.1 a, b⟩
      rw [hf] at this; cases this
theorem usedF_perm {a b : List Fl} (h : a.Perm b) : usedF a = usedF b := by
  induction h with
  | nil => rfl
  | cons x _ ih => rw [usedF, usedF, ih]
  | swap x y l => simp only [usedF]; omega
  | trans _ _ i1 i2 => rw [i1, i2]

/-- put, as the reference does. -/
def putS (g : Fl) : Bool → List Fl → List Fl
  | done, [] => if done then [] else [g]
  | done, f :: r => (if !done && decide (keyF g ≤ keyF f) then [g] else []) ++ (if f.name = g.name then [] else [f]) ++ putS g (done || decide (keyF g ≤ keyF f)) r
def dropS (k : ByteArray) (L : List Fl) : List Fl := L.filter fun f => decide (f.name ≠ k)

theorem putF_perm (g : Fl) : ∀ {fs : List Fl}, (fs.map (·.name)).Nodup → (putF fs g).Perm (g :: dropS g.name fs)
  | [], _ => by simp [putF, dropS]
  | f :: r, nd => by
    rw [List.map_cons, List.nodup_cons] at nd
    rw [putF]
    by_cases h : f.name = g.name
    · rw [if_pos h]
      have : dropS g.name (f :: r) = r := by
        unfold dropS
        rw [List.filter_cons_of_neg (by simp [h])]
        refine List.filter_eq_self.2 fun x hx => ?_
        simp only [decide_eq_true_eq]
        intro e
        exact nd.1 (List.mem_map.2 ⟨x, hx, by rw [e, h]⟩)
      rw [this]
    · rw [if_neg h]
      have : dropS g.name (f :: r) = f :: dropS g.name r := by
        unfold dropS
        rw [List.filter_cons_of_pos (by simp [h])]
      rw [this]
      exact ((putF_perm g nd.2).cons f).trans (List.Perm.swap _ _ _)
theorem delF_perm (k : ByteArray) : ∀ {fs : List Fl}, (fs.map (·.name)).Nodup → delF fs k = dropS k fs
  | [], _ => rfl
  | f :: r, nd => by
    rw [List.map_cons, List.nodup_cons] at nd
    rw [delF]
    unfold dropS
    by_cases h : f.name = k
    · rw [if_pos h, List.filter_cons_of_neg (by simp [h])]
      refine (List.filter_eq_self.2 fun x hx => ?_).symm
      simp only [decide_eq_true_eq]
      intro e
      exact nd.1 (List.mem_map.2 ⟨x, hx, by rw [e, h]⟩)
    · rw [if_neg h, List.filter_cons_of_pos (by simp [h]), delF_perm k nd.2]
      rfl
theorem putS_perm (g : Fl) : ∀ (L : List Fl) (done : Bool), (putS g done L).Perm ((if done then [] else [g]) ++ dropS g.name L)
  | [], done => by simp [putS, dropS]
  | f :: r, done => by
    rw [putS]
    have ih := putS_perm g r (done || decide (keyF g ≤ keyF f))
    have hd : dropS g.name (f :: r) = (if f.name = g.name then [] else [f]) ++ dropS g.name r := by
      unfold dropS
      by_cases h : f.name = g.name
      · rw [List.filter_cons_of_neg (by simp [h]), if_pos h]; rfl
      · rw [List.filter_cons_of_pos (by simp [h]), if_neg h]; rfl
    rw [hd]
    cases done with
    | true =>
      simp only [Bool.not_true, Bool.false_and, Bool.false_eq_true, if_false, Bool.true_or, if_true, List.nil_append] at ih ⊢
      exact ih.append_left _
    | false =>
      by_cases hk : keyF g ≤ keyF f
      · simp only [hk, decide_true, Bool.not_false, Bool.and_true, if_true, Bool.or_true, Bool.false_eq_true, if_false] at ih ⊢
        simpa [List.append_assoc] using (ih.append_left (if f.name = g.name then [] else [f])).cons g
      · simp only [hk, decide_false, Bool.not_false, Bool.and_false, Bool.false_eq_true, if_false, Bool.or_false] at ih ⊢
        refine (ih.append_left (if f.name = g.name then [] else [f])).trans ?_
        split
        · simp
        · simp only [List.cons_append, List.nil_append]
          exact List.Perm.swap _ _ _
theorem putS_true (g : Fl) : ∀ (L : List Fl), putS g true L = dropS g.name L
  | [] => rfl
  | f :: r => by
    rw [putS]
    unfold dropS
    have ih := putS_true g r
    unfold dropS at ih
    by_cases h : f.name = g.name
    · rw [List.filter_cons_of_neg (by simp [h]), if_pos h]; simpa using ih
    · rw [List.filter_cons_of_pos (by simp [h]), if_neg h]; simpa using ih
theorem dropS_sorted (k : ByteArray) {L : List Fl} (h : L.Pairwise fun a b => keyF a < keyF b) : (dropS k L).Pairwise fun a b => keyF a < keyF b := h.filter _
theorem mem_dropS {k : ByteArray} {L : List Fl} {f : Fl} (h : f ∈ dropS k L) : f ∈ L := (List.mem_filter.1 h).1
theorem putS_sorted (g : Fl) : ∀ {L : List Fl}, L.Pairwise (fun a b => keyF a < keyF b) → (putS g false L).Pairwise fun a b => keyF a < keyF b
  | [], _ => by simp [putS]
  | f :: r, h => by
    have h1 := List.pairwise_cons.1 h
    rw [putS]
    by_cases hk : keyF g ≤ keyF f
    · simp only [hk, decide_true, Bool.not_false, Bool.and_true, if_true, Bool.or_true, List.cons_append, List.nil_append]
      rw [putS_true]
      refine List.pairwise_cons.2 ⟨fun x hx => ?_, ?_⟩
      · rcases List.mem_append.1 hx with hx | hx
        · split at hx
          · cases hx
          · rename_i hne
            simp only [List.mem_singleton] at hx
            subst hx
            refine Decidable.byContradiction fun hc => hne ?_
            exact keyF_inj (List.le_antisymm (List.not_lt.1 hc) hk)
        · exact List.lt_of_le_of_lt hk (h1.1 x (mem_dropS hx))
      · refine List.pairwise_append.2 ⟨by split <;> simp, dropS_sorted _ h1.2, fun a ha b hb => ?_⟩
        split at ha
        · cases ha
        · simp only [List.mem_singleton] at ha
          subst ha
          exact h1.1 b (mem_dropS hb)
    · simp only [hk, decide_false, Bool.not_false, Bool.and_false, Bool.false_eq_true, if_false, Bool.or_false, List.nil_append]
      have hlt : keyF f < keyF g := List.not_le.1 hk
      have hne : f.name ≠ g.name := fun e => List.lt_irrefl (keyF g) (by
        have : keyF f = keyF g := by unfold keyF; rw [e]
        rwa [this] at hlt)
      rw [if_neg hne]
      refine List.pairwise_cons.2 ⟨fun x hx => ?_, putS_sorted g h1.2⟩
      have := (putS_perm g r false).mem_iff.1 hx
      simp only [Bool.false_eq_true, if_false, List.singleton_append, List.mem_cons] at this
      rcases this with rfl | hx
      · exact hlt
      · exact h1.1 x (mem_dropS hx)
theorem SortedOf.put {fs L : List Fl} (h : SortedOf fs L) (nd : (fs.map (·.name)).Nodup) (g : Fl) : SortedOf (putF fs g) (putS g false L) :=
  ⟨(putS_perm g L false).trans (((h.perm.filter _).cons g).trans (putF_perm g nd).symm), putS_sorted g h.sort⟩
theorem SortedOf.del {fs L : List Fl} (h : SortedOf fs L) (nd : (fs.map (·.name)).Nodup) (k : ByteArray) : SortedOf (delF fs k) (dropS k L) :=
  ⟨by rw [delF_perm k nd]; exact h.perm.filter _, dropS_sorted k h.sort⟩
theorem sorted_unique {L K : List Fl} (hL : L.Pairwise fun a b => keyF a < keyF b) (hK : K.Pairwise fun a b => keyF a < keyF b) (h : L.Perm K) : L = K :=
  h.eq_of_pairwise (fun _ _ _ _ h1 h2 => absurd (List.lt_trans h1 h2) (List.lt_irrefl _)) hL hK
/-- Names tells the names of the sorted files. -/
theorem SortedOf.names {D : Dk} {L : List Fl} (h : SortedOf D.files L) {N : List ByteArray} (hN : NamesAre D N) : N = L.map (·.name) := by
  obtain ⟨ss, hp, rfl⟩ := hN
  have h1 : (ss.mergeSort fun x y => decide (x ≤ y)).Perm (L.map keyF) := (List.mergeSort_perm ss _).trans (hp.trans (h.perm.map keyF).symm)
  have h2 : (ss.mergeSort fun x y => decide (x ≤ y)).Pairwise (fun a b => a ≤ b) := by
    have := List.pairwise_mergeSort (le := fun x y : List UInt8 => decide (x ≤ y)) (fun a b c h1 h2 => by
      simp only [decide_eq_true_eq] at *
      exact List.le_trans h1 h2) (fun a b => by
      simp only [Bool.or_eq_true, decide_eq_true_eq]
      exact List.le_total a b) ss
    exact this.imp fun h => by simpa using h
  have h3 : (L.map keyF).Pairwise (fun a b => a ≤ b) := List.Pairwise.map _ (fun _ _ hab => List.le_of_lt hab) h.sort
  have h4 : (ss.mergeSort fun x y => decide (x ≤ y)) = L.map keyF := h1.eq_of_pairwise (fun _ _ _ _ h1 h2 => List.le_antisymm h1 h2) h2 h3
  rw [h4, List.map_map]
  refine List.map_congr_left fun f _ => ?_
  show (⟨(keyF f).toArray⟩ : ByteArray) = f.name
  exact keyF_inj (by simp [keyF])
theorem sorted_of (D : Dk) (nd : (D.files.map (·.name)).Nodup) : ∃ L, SortedOf D.files L := by
  obtain ⟨fs⟩ : ∃ fs, D.files = fs := ⟨_, rfl⟩
  rename_i hfs
  rw [hfs] at nd ⊢
  clear hfs
  induction fs with
  | nil => exact ⟨[], .refl _, .nil⟩
  | cons f r ih =>
    rw [List.map_cons, List.nodup_cons] at nd
    obtain ⟨L, hL⟩ := ih nd.2
    refine ⟨putS f false L, ?_, putS_sorted f hL.sort⟩
    refine (putS_perm f L false).trans ?_
    simp only [Bool.false_eq_true, if_false, List.singleton_append]
    have : dropS f.name L = L := List.filter_eq_self.2 fun x hx => by
      simp only [decide_eq_true_eq]
      intro e
      exact nd.1 (List.mem_map.2 ⟨x, hL.perm.mem_iff.1 hx, e⟩)
    rw [this]
    exact hL.perm.cons f

end Go.Proofs.YtgdamcimpgapgaaGreatDoor

/- The reference's disk in memory: a row of files, three cells each, rising by name. -/
namespace Go.Proofs.YtgdamcimpgapgaaGreatDoor
open Go.RowKit

/-- a file as three cells. -/
structure Fc where
  f : Fl
  A : Option Addr
  c : Nat
def Fc.cells (x : Fc) : List Value := [.string x.f.name, .int .i64 (x.f.safe : Int), .slice x.A x.f.bytes.length x.c]
def flat3 : List Fc → List Value
  | [] => []
  | x :: r => x.cells ++ flat3 r
theorem flat3_append (p q : List Fc) : flat3 (p ++ q) = flat3 p ++ flat3 q := by
  induction p with
  | nil => rfl
  | cons b r ih => rw [List.cons_append, flat3, flat3, ih, List.append_assoc]
theorem flat3_len (xs : List Fc) : (flat3 xs).length = xs.length * 3 := by
  induction xs with
  | nil => rfl
  | cons b r ih => rw [flat3, List.length_append, ih, List.length_cons]; simp [Fc.cells]; omega
theorem flat3_get {xs : List Fc} {i : Nat} {x : Fc} (h : xs[i]? = some x) (j : Nat) (hj : j < 3) : (flat3 xs)[i * 3 + j]? = x.cells[j]? := by
  induction xs generalizing i with
  | nil => cases h
  | cons b r ih =>
    cases i with
    | zero =>
      simp only [List.getElem?_cons_zero, Option.some.injEq] at h
      subst h
      rw [flat3, Nat.zero_mul, Nat.zero_add, List.getElem?_append_left (by simp [Fc.cells]; omega)]
    | succ i =>
      rw [List.getElem?_cons_succ] at h
      have e : (i + 1) * 3 + j = (b.cells).length + (i * 3 + j) := by simp [Fc.cells]; omega
      rw [flat3, e, List.getElem?_append_right (by omega), Nat.add_sub_cancel_left]
      exact ih h
/-- the cells of a file in a row. -/
theorem Rd.file {w : World} {A : Option Addr} {n : Nat} {xs : List Fc} (h : Rd w A (n * 3) (flat3 xs)) {i : Nat} (hi : i < n) :
    ∃ b o x, A = some ⟨b, o, none⟩ ∧ xs[i]? = some x ∧ w.cell? ⟨b, o + i * 3, none⟩ = some (.string x.f.name) ∧ w.cell? ⟨b, o + i * 3 + 1, none⟩ = some (.int .i64 (x.f.safe : Int)) ∧ w.cell? ⟨b, o + i * 3 + 2, none⟩ = some (.slice x.A x.f.bytes.length x.c) := by
  have hl : xs.length = n := by have := h.1; rw [flat3_len] at this; omega
  obtain ⟨b, o, rfl, hc⟩ := h.2 (by omega)
  have hx : xs[i]? = some xs[i] := List.getElem?_eq_getElem (by omega)
  refine ⟨b, o, xs[i], rfl, hx, ?_, ?_, ?_⟩
  · exact hc (i * 3) _ (by rw [show i * 3 = i * 3 + 0 from rfl, flat3_get hx 0 (by omega)]; rfl)
  · rw [Nat.add_assoc]; exact hc (i * 3 + 1) _ (by rw [flat3_get hx 1 (by omega)]; rfl)
  · rw [Nat.add_assoc]; exact hc (i * 3 + 2) _ (by rw [flat3_get hx 2 (by omega)]; rfl)

/-- The parts of the reference's disk: block r its cells; the row of files and their bytes lie in blocks of B. -/
structure RkAt (w : World) (B : Nat → Prop) (r : Nat) (D : Dk) (A : Option Addr) (n c : Nat) (xs : List Fc) : Prop where
  blk : Blk w r 54 #[.int .i64 D.n, .slice A n c, .int .i64 D.done, .int .i64 D.left, .bool D.off]
  row : Rd w A (n * 3) (flat3 xs)
  nc : n ≤ c
  cm : c ≤ 9223372036854775807
  fs : SortedOf D.files (xs.map (·.f))
  byt : ∀ x ∈ xs, Rd w x.A x.f.bytes.length (by8 x.f.bytes) ∧ x.f.bytes.length ≤ x.c ∧ x.c ≤ 9223372036854775807 ∧ ∀ b, blkOf x.A = some b → B b
  rowB : ∀ b, blkOf A = some b → B b
  rB : ¬ B r
/-- The reference's disk at block r, all that it reads in blocks of E. -/
def RkIs (w : World) (E : Nat → Prop) (r : Nat) (D : Dk) : Prop :=
  ∃ B A n c xs, RkAt w B r D A n c xs ∧ E r ∧ (∀ k, B k → E k) ∧ ∀ k, E k → k < w.heap.size

section
variable {w w' : World} {B E S : Nat → Prop} {r n c : Nat} {D : Dk} {A : Option Addr} {xs : List Fc}
theorem RkAt.mod (h : RkAt w B r D A n c xs) (hm : Mod S w w') (hr : ¬ S r) (hB : ∀ k, B k → ¬ S k) : RkAt w' B r D A n c xs :=
  ⟨h.blk.mod hm hr, h.row.mod hm fun _ b hb => hB b (h.rowB b hb), h.nc, h.cm, h.fs, fun x hx => by
    obtain ⟨h1, h2, h3, h4⟩ := h.byt x hx
    exact ⟨h1.mod hm fun _ b hb => hB b (h4 b hb), h2, h3, h4⟩, h.rowB, h.rB⟩
theorem RkAt.mod0 (h : RkAt w B r D A n c xs) (hm : Mod Non w w') : RkAt w' B r D A n c xs := h.mod hm (fun h => h) fun _ _ h => h
theorem RkIs.mod (h : RkIs w E r D) (hm : Mod S w w') (hS : ∀ k, E k → ¬ S k) : RkIs w' E r D := by
  obtain ⟨B, A, n, c, xs, h1, h2, h3, h4⟩ := h
  exact ⟨B, A, n, c, xs, h1.mod hm (hS _ h2) fun k hk => hS k (h3 k hk), h2, h3, fun k hk => Nat.lt_of_lt_of_le (h4 k hk) hm.size⟩
theorem RkIs.mod0 (h : RkIs w E r D) (hm : Mod Non w w') : RkIs w' E r D := h.mod hm fun _ _ h => h
theorem RkIs.elt (h : RkIs w E r D) : ∀ k, E k → k < w.heap.size := by
  obtain ⟨B, A, n, c, xs, h1, h2, h3, h4⟩ := h; exact h4
theorem RkAt.len (h : RkAt w B r D A n c xs) : xs.length = n := by have := h.row.1; rw [flat3_len] at this; omega
end

/-- where a file is in a row; -1: it is not there. -/
def atS : List Fl → ByteArray → Int
  | [], _ => -1
  | f :: r, k => if f.name = k then 0 else if atS r k < 0 then -1 else atS r k + 1

/-- what a call on the reference's disk leaves. -/
def RkPost (E : Nat → Prop) (r : Nat) (D' : Dk) (v : Value) (w : World) (e : Ending) (w' : World) : Prop :=
  e = .returned v ∧ ∃ E', RkIs w' E' r D' ∧ Mod (fun k => k = r) w w' ∧ ∀ k, E' k → E k ∨ w.heap.size ≤ k

end Go.Proofs.YtgdamcimpgapgaaGreatDoor

/- The reference's disk: at, Has. -/
namespace Go.Proofs.YtgdamcimpgapgaaGreatDoor
open Go.RowKit

theorem find_no {nm : ByteArray} : ∀ {L : List Fl}, (∀ g ∈ L, g.name ≠ nm) → findF L nm = none
  | [], _ => rfl
  | f :: r, h => by rw [findF, if_neg (h f (.head _)), find_no fun g hg => h g (.tail _ hg)]
theorem find_at {nm : ByteArray} {f : Fl} : ∀ {L : List Fl} {k : Nat}, (∀ g ∈ L.take k, g.name ≠ nm) → L[k]? = some f → f.name = nm → findF L nm = some f
  | [], _, _, h, _ => by simp at h
  | g :: r, 0, _, h, h3 => by
    simp only [List.getElem?_cons_zero, Option.some.injEq] at h
    subst h
    rw [findF, if_pos h3]
  | g :: r, k + 1, h1, h, h3 => by
    rw [List.getElem?_cons_succ] at h
    rw [findF, if_neg (h1 g (by simp)), find_at (fun x hx => h1 x (by rw [List.take_succ_cons]; exact .tail _ hx)) h h3]
/-- what at tells. -/
def AtPost (L : List Fl) (nm : ByteArray) (w : World) (e : Ending) (w' : World) : Prop :=
  w = w' ∧ ((findF L nm = none ∧ e = .returned (.int .i64 (-1))) ∨ ∃ (i : Nat) (f : Fl), L[i]? = some f ∧ findF L nm = some f ∧ f.name = nm ∧ e = .returned (.int .i64 (i : Int)))

set_option maxRecDepth 100000 in
set_option maxHeartbeats 1000000 in
theorem at_any (nm : ByteArray) (B : Nat → Prop) (r : Nat) (D : Dk) (A : Option Addr) (n c : Nat) (xs : List Fc) (w : World) (h : RkAt w B r D A n c xs) :
    Calls Tryz.prog 110 #[.pointer (some ⟨r, 0, none⟩), .string nm] w (AtPost (xs.map (·.f)) nm w) := by
  have c1 : w.cell? ⟨r, 1, none⟩ = some (.slice A n c) := h.blk.cell 1
  have hnc := h.nc
  have hcm := h.cm
  have hlen := h.len
  have HR := Lib.hid h.row
  have HLEN := Lib.hid hlen
  clear h hlen
  go_enter Tryz.func110, Tryz.ntmps110
  go_wp2_with fail
  go_loop [5] (fun i => ∃ k : Nat, k ≤ n ∧ i = .int .i64 k ∧ Hid (∀ g ∈ (xs.map (·.f)).take k, g.name ≠ nm)) (fun i => n - (intOf i).toNat)
  case atStart => exact ⟨0, Nat.zero_le _, rfl, by simp [Hid]⟩
  case round =>
    obtain ⟨k, hk, rfl, HE⟩ := hrel
    by_cases hlt : k < n
    · obtain ⟨b, o, x, rfl, hx, g0, g1, g2⟩ := HR.out.file hlt
      have HX : Hid ((xs.map (·.f))[k]? = some x.f) := by show _ = _; rw [List.getElem?_map, hx]; rfl
      clear g1 g2 hx
      obtain ⟨xn, hxn⟩ : ∃ xn, x.f.name = xn := ⟨_, rfl⟩
      rw [hxn] at g0
      have HXN := Lib.hid hxn
      clear hxn
      by_cases he : xn = nm
      · subst he
        go_wp2_with fail
        go_ret
        exact ⟨rfl, .inr ⟨k, x.f, HX.out, find_at HE.out HX.out HXN.out, HXN.out, rfl⟩⟩
      · have hs2 : (xn.toList == nm.toList) = false := beq_eq_false_iff_ne.2 fun e => he (keyF_inj (by rwa [ByteArray.toList_eq, ByteArray.toList_eq] at e))
        go_wp2_with fail
        go_round
        case rel =>
          refine ⟨k + 1, by omega, by go_num, ?_⟩
          show ∀ g ∈ (xs.map (·.f)).take (k + 1), g.name ≠ nm
          rw [take_snoc' _ k x.f HX.out]
          intro g hg
          rcases List.mem_append.1 hg with hg | hg
          · exact HE.out g hg
          · simp only [List.mem_singleton] at hg
            rw [hg, HXN.out]
            exact he
        case measure => simp [intOf]; omega
    · obtain rfl : k = n := by omega
      go_wp2_with fail
      go_ret
      refine ⟨rfl, .inl ⟨find_no ?_, rfl⟩⟩
      have := HE.out
      rwa [List.take_of_length_le (by simp [HLEN.out])] at this

set_option maxRecDepth 100000 in
set_option maxHeartbeats 1000000 in
theorem hasR_any (nm : ByteArray) (E : Nat → Prop) (r : Nat) (D : Dk) (w : World) (h : RkIs w E r D) (nd : (D.files.map (·.name)).Nodup) :
    Calls Tryz.prog 83 #[.pointer (some ⟨r, 0, none⟩), .string nm] w fun e w' => e = .returned (.bool (findF D.files nm).isSome) ∧ w = w' := by
  obtain ⟨B, A, n, c, xs, h1, _⟩ := h
  have HC := Lib.hid (at_any nm B r D A n c xs w h1)
  have HF := Lib.hid (h1.fs.find nd nm)
  obtain ⟨bb, hbb⟩ : ∃ bb, (findF D.files nm).isSome = bb := ⟨_, rfl⟩
  rw [hbb]
  have HB := Lib.hid hbb
  clear h1 hbb
  go_enter Tryz.func83, Tryz.ntmps83
  go_wp2_with fail
  refine HC.out.mono ?_
  rintro e w1 ⟨rfl, hp⟩
  rcases hp with ⟨hf, rfl⟩ | ⟨i, f, hi, hf, hn, rfl⟩
  · have hb := HB.out
    rw [← HF.out, hf] at hb
    subst hb
    clear hf
    go_wp2_with fail
    go_ret
    exact ⟨rfl, rfl⟩
  · have hb := HB.out
    rw [← HF.out, hf] at hb
    subst hb
    have i0 : (0 : Int) ≤ (i : Int) := by omega
    clear hf hi hn
    go_wp2_with fail
    go_ret
    exact ⟨rfl, rfl⟩

end Go.Proofs.YtgdamcimpgapgaaGreatDoor

/- The reference's disk: right, step, Cut, Free. -/
namespace Go.Proofs.YtgdamcimpgapgaaGreatDoor
open Go.RowKit

def rkCells (D : Dk) (A : Option Addr) (n c : Nat) : Array Value := #[.int .i64 D.n, .slice A n c, .int .i64 D.done, .int .i64 D.left, .bool D.off]
section
variable {w w' : World} {B E S : Nat → Prop} {r n c : Nat} {D : Dk} {A : Option Addr} {xs : List Fc}
/-- a cell turned, the files not. -/
theorem RkAt.set_ (h : RkAt w B r D A n c xs) (i : Nat) (u : Value) (D' : Dk) (hf : D'.files = D.files) (hc : (rkCells D A n c).setIfInBounds i u = rkCells D' A n c) : RkAt (w.setCell ⟨r, i, none⟩ u) B r D' A n c xs := by
  have hm : Mod (fun k => k = r) w (w.setCell ⟨r, i, none⟩ u) := Mod.setCell (S := fun k => k = r) (p := ⟨r, i, none⟩) (Mod.refl _ w) (.inl rfl) u
  have h2 := h.mod (S := fun k => k = r ∧ False) (w' := w) ⟨rfl, rfl, rfl, Nat.le_refl _, fun _ _ _ => rfl⟩ (fun h => h.2) (fun _ _ h => h.2)
  refine ⟨?_, h.row.mod hm fun _ b hb e => h.rB (e ▸ h.rowB b hb), h.nc, h.cm, by rw [hf]; exact h.fs, fun x hx => ?_, h.rowB, h.rB⟩
  · have := h.blk.set_ i u
    rw [show (#[.int .i64 D.n, .slice A n c, .int .i64 D.done, .int .i64 D.left, .bool D.off] : Array Value) = rkCells D A n c from rfl, hc] at this
    exact this
  · obtain ⟨h1, h2, h3, h4⟩ := h.byt x hx
    exact ⟨h1.mod hm fun _ b hb e => h.rB (e ▸ h4 b hb), h2, h3, h4⟩
theorem RkAt.setLeft (h : RkAt w B r D A n c xs) (x : Int) : RkAt (w.setCell ⟨r, 3, none⟩ (.int .i64 x)) B r { D with left := x } A n c xs := h.set_ 3 _ _ rfl rfl
theorem RkAt.setDone (h : RkAt w B r D A n c xs) (x : Int) : RkAt (w.setCell ⟨r, 2, none⟩ (.int .i64 x)) B r { D with done := x } A n c xs := h.set_ 2 _ _ rfl rfl
theorem RkAt.setOff (h : RkAt w B r D A n c xs) (x : Bool) : RkAt (w.setCell ⟨r, 4, none⟩ (.bool x)) B r { D with off := x } A n c xs := h.set_ 4 _ _ rfl rfl
/-- 'used' is not in memory. -/
theorem RkAt.used_ (h : RkAt w B r D A n c xs) (x : Int) : RkAt w B r { D with used := x } A n c xs := ⟨h.blk, h.row, h.nc, h.cm, h.fs, h.byt, h.rowB, h.rB⟩
end

set_option maxRecDepth 100000 in
set_option maxHeartbeats 400000 in
theorem rightR_any (b : Bool) (B : Nat → Prop) (r : Nat) (D : Dk) (A : Option Addr) (n c : Nat) (xs : List Fc) (w : World) (h : RkAt w B r D A n c xs) :
    Calls Tryz.prog 112 #[.pointer (some ⟨r, 0, none⟩), .bool b] w fun e w' => e = .returned (.int .i64 (rightE b D)) ∧ w = w' := by
  have c4 : w.cell? ⟨r, 4, none⟩ = some (.bool D.off) := h.blk.cell 4
  clear h
  unfold rightE
  generalize D.off = off at *
  cases b <;> cases off
  all_goals
    go_enter Tryz.func112, Tryz.ntmps112
    go_wp2_with fail
    go_ret
    exact ⟨rfl, rfl⟩

def stepD (D : Dk) : Dk := if D.left = 0 then { D with off := true, left := -1 } else { D with left := max (D.left - 1) (-1), done := wrap64 (D.done + 1) }
set_option maxRecDepth 100000 in
set_option maxHeartbeats 1000000 in
theorem stepR_any (B : Nat → Prop) (r : Nat) (D : Dk) (A : Option Addr) (n c : Nat) (xs : List Fc) (w : World) (h : RkAt w B r D A n c xs) (l0 : -1 ≤ D.left) (l1 : D.left ≤ 9223372036854775807) :
    Calls Tryz.prog 113 #[.pointer (some ⟨r, 0, none⟩)] w fun e w' => e = .returned (.bool (decide (D.left ≠ 0))) ∧ RkAt w' B r (stepD D) A n c xs ∧ Mod (fun k => k = r) w w' := by
  have c3 : w.cell? ⟨r, 3, none⟩ = some (.int .i64 D.left) := h.blk.cell 3
  have c2 : w.cell? ⟨r, 2, none⟩ = some (.int .i64 D.done) := h.blk.cell 2
  have c4 : w.cell? ⟨r, 4, none⟩ = some (.bool D.off) := h.blk.cell 4
  have f2 := h.blk.frozen 2
  have f3 := h.blk.frozen 3
  have f4 := h.blk.frozen 4
  have HA := Lib.hid h
  clear h
  rcases (show D.left = 0 ∨ 0 < D.left ∨ D.left = -1 by omega) with hz | hz | hz
  · have H0 := Lib.hid hz
    rw [decide_eq_false (by rw [hz]; simp)]
    have HD : Hid (stepD D = { D with off := true, left := -1 }) := by show _ = _; unfold stepD; rw [if_pos hz]
    rw [HD.out]
    rw [hz] at c3
    clear hz
    go_enter Tryz.func113, Tryz.ntmps113
    go_wp2_with fail
    go_ret
    exact ⟨rfl, (HA.out.setOff true).setLeft (-1), (((Mod.refl (fun k => k = r) w).set1 4 _).set1 3 _)⟩
  · have HD : Hid (stepD D = { D with left := D.left - 1, done := wrap64 (D.done + 1) }) := by show _ = _; unfold stepD; rw [if_neg (by omega), Int.max_eq_left (by omega)]
    rw [decide_eq_true (by omega), HD.out]
    have hne : (D.left == 0) = false := by simp; omega
    generalize hl : D.left = l at *
    have HL := Lib.hid hl
    clear hl
    go_enter Tryz.func113, Tryz.ntmps113
    go_wp2_with fail
    go_ret
    exact ⟨rfl, (HA.out.setLeft (l - 1)).setDone _, (((Mod.refl (fun k => k = r) w).set1 3 _).set1 2 _)⟩
  · have HD : Hid (stepD D = { D with left := D.left, done := wrap64 (D.done + 1) }) := by show _ = _; unfold stepD; rw [if_neg (by omega), Int.max_eq_right (by omega), hz]
    rw [decide_eq_true (by omega), HD.out]
    rw [hz] at c3 ⊢
    have HZ := Lib.hid hz
    clear hz
    go_enter Tryz.func113, Tryz.ntmps113
    go_wp2_with fail
    go_ret
    refine ⟨rfl, ?_, ((Mod.refl (fun k => k = r) w).set1 2 _)⟩
    have := HA.out.setDone (wrap64 (D.done + 1))
    rw [← HZ.out]
    exact this

set_option maxRecDepth 100000 in
set_option maxHeartbeats 400000 in
theorem cutR_any (ops : Int) (E : Nat → Prop) (r : Nat) (D : Dk) (w : World) (h : RkIs w E r D) :
    Calls Tryz.prog 48 #[.pointer (some ⟨r, 0, none⟩), .int .i64 ops] w (RkPost E r (cutD D ops) (.int .i64 (cutE ops)) w) := by
  have HH := Lib.hid h
  obtain ⟨B, A, n, c, xs, hA, hE, hBE, hlt⟩ := h
  have c4 : w.cell? ⟨r, 4, none⟩ = some (.bool D.off) := hA.blk.cell 4
  have c3 : w.cell? ⟨r, 3, none⟩ = some (.int .i64 D.left) := hA.blk.cell 3
  have f3 := hA.blk.frozen 3
  have HA := Lib.hid hA
  clear hA
  by_cases ho : ops < 0
  · have H1 : Hid (cutD D ops = D ∧ cutE ops = 1) := ⟨by unfold cutD; rw [if_pos (.inl ho)], by unfold cutE; rw [if_pos ho]⟩
    rw [H1.out.1, H1.out.2]
    go_enter Tryz.func48, Tryz.ntmps48
    go_wp2_with fail
    go_ret
    exact ⟨rfl, E, HH.out, Mod.refl _ _, fun k hk => .inl hk⟩
  · have H2 : Hid (cutE ops = 0) := by show cutE ops = 0; unfold cutE; rw [if_neg ho]
    rw [H2.out]
    have ho' : 0 ≤ ops := by omega
    cases hoff : D.off with
    | true =>
      have H1 : Hid (cutD D ops = D) := by show cutD D ops = D; unfold cutD; rw [if_pos (.inr hoff)]
      rw [H1.out]
      rw [hoff] at c4
      clear hoff ho
      go_enter Tryz.func48, Tryz.ntmps48
      go_wp2_with fail
      go_ret
      exact ⟨rfl, E, HH.out, Mod.refl _ _, fun k hk => .inl hk⟩
    | false =>
      have H1 : Hid (cutD D ops = { D with left := ops }) := by show cutD D ops = _; unfold cutD; rw [if_neg (by rw [hoff]; simp; omega)]
      rw [H1.out]
      rw [hoff] at c4
      clear hoff ho
      go_enter Tryz.func48, Tryz.ntmps48
      go_wp2_with fail
      go_ret
      exact ⟨rfl, E, ⟨B, A, n, c, xs, HA.out.setLeft ops, hE, hBE, fun k hk => by simpa [World.setCell] using hlt k hk⟩, (Mod.refl (fun k => k = r) w).set1 3 _, fun k hk => .inl hk⟩

end Go.Proofs.YtgdamcimpgapgaaGreatDoor

/- The reference's disk: Named, Free, New. -/
namespace Go.Proofs.YtgdamcimpgapgaaGreatDoor
open Go.RowKit

theorem indexByte_neg : ∀ l : List UInt8, Lib.indexByte l 0 < 0 ↔ ∀ c ∈ l, c ≠ 0
  | [] => by simp [Lib.indexByte]
  | a :: l => by
    have ih := indexByte_neg l
    have hge := Lib.indexByte_ge l 0
    unfold Lib.indexByte
    by_cases h : a = 0
    · subst h; simp
    · constructor
      · intro h1 c hc
        rcases List.mem_cons.1 hc with rfl | hc
        · exact h
        · refine ih.1 ?_ c hc
          simp [h] at h1
          split at h1 <;> omega
      · intro h1
        have h2 := ih.2 fun c hc => h1 c (.tail _ hc)
        simp [h]
        split <;> omega

set_option maxRecDepth 100000 in
set_option maxHeartbeats 1000000 in
theorem namedR_any (s : ByteArray) (w : World) (hs : s.size ≤ 9223372036854775807) : Calls Tryz.prog 82 #[.string s] w fun e w' => e = .returned (.bool (named s)) ∧ w = w' := by
  obtain ⟨b, hb⟩ : ∃ b, named s = b := ⟨_, rfl⟩
  have HB := Lib.hid hb
  rw [hb]
  clear hb
  by_cases h1 : 1 ≤ s.size
  · by_cases h2 : s.size ≤ 100
    · have HN : Hid (b = decide (Lib.indexByte s.data.toList 0 < 0)) := by
        show _ = _
        rw [← HB.out]
        unfold named
        simp [h1, h2]
      go_enter Tryz.func82, Tryz.ntmps82
      go_wp2_with fail
      go_loop [3] (fun i => ∃ k : Nat, k ≤ s.size ∧ i = .int .i64 k ∧ Hid (∀ c ∈ s.data.toList.take k, c ≠ 0)) (fun i => s.size - (intOf i).toNat)
      case atStart => exact ⟨0, Nat.zero_le _, rfl, by simp [Hid]⟩
      case round =>
        obtain ⟨k, hk, rfl, HE⟩ := hrel
        by_cases hlt : k < s.size
        · have hg : s.data.toList[k]? = some s[k] := by
            rw [List.getElem?_eq_getElem (by simpa using hlt)]; rfl
          have HG := Lib.hid hg
          clear hg
          by_cases hz : (s[k].toNat : Int) = 0
          · have hzb : ((s[k].toNat : Int) == 0) = true := by simp [hz]
            have HZ := Lib.hid hz
            clear hz
            go_wp2_with fail
            go_ret
            have : b = false := by
              rw [HN.out]
              refine decide_eq_false fun h => ?_
              have h2 := (indexByte_neg _).1 h _ (List.mem_of_getElem? HG.out)
              refine h2 (UInt8.toNat_inj.1 ?_)
              have := HZ.out
              simpa using this
            exact ⟨by rw [this]; rfl, rfl⟩
          · have hzb : ((s[k].toNat : Int) == 0) = false := by simpa using hz
            have HZ := Lib.hid hz
            clear hz
            go_wp2_with fail
            go_round
            case rel =>
              refine ⟨k + 1, by omega, by go_num, ?_⟩
              show ∀ c ∈ s.data.toList.take (k + 1), c ≠ 0
              rw [take_snoc _ k _ HG.out]
              intro c hc
              rcases List.mem_append.1 hc with hc | hc
              · exact HE.out c hc
              · simp only [List.mem_singleton] at hc
                subst hc
                intro e
                refine HZ.out ?_
                rw [e]; rfl
            case measure => simp [intOf]; omega
        · go_wp2_with fail
          go_ret
          have : b = true := by
            rw [HN.out]
            refine decide_eq_true ((indexByte_neg _).2 ?_)
            have := HE.out
            rwa [List.take_of_length_le (by simp; omega)] at this
          exact ⟨by rw [this]; rfl, rfl⟩
    · have : b = false := by
        rw [← HB.out]; unfold named; simp; omega
      subst this
      go_enter Tryz.func82, Tryz.ntmps82
      go_wp2_with fail
      go_ret
      exact ⟨rfl, rfl⟩
  · have : b = false := by
      rw [← HB.out]; unfold named; simp; omega
    subst this
    go_enter Tryz.func82, Tryz.ntmps82
    go_wp2_with fail
    go_ret
    exact ⟨rfl, rfl⟩

theorem usedF_take {L : List Fl} {k : Nat} {f : Fl} (h : L[k]? = some f) : usedF (L.take (k + 1)) = usedF (L.take k) + costF f := by
  rw [take_snoc' L k f h]
  have : ∀ (p : List Fl), usedF (p ++ [f]) = usedF p + costF f := fun p => by
    induction p with
    | nil => simp [usedF]
    | cons a p ih => rw [List.cons_append, usedF, usedF, ih]; omega
  exact this _
theorem usedF_pos : ∀ l : List Fl, 0 ≤ usedF l
  | [] => by simp [usedF]
  | a :: l => by have := usedF_pos l; simp only [usedF, costF]; omega
theorem usedF_take_le (L : List Fl) (k : Nat) : 0 ≤ usedF (L.take k) ∧ usedF (L.take k) ≤ usedF L := by
  refine ⟨usedF_pos _, ?_⟩
  induction L generalizing k with
  | nil => simp [usedF]
  | cons a L ih =>
    cases k with
    | zero => have := usedF_pos (a :: L); simpa [usedF] using this
    | succ k => rw [List.take_succ_cons, usedF, usedF]; have := ih k; omega

set_option maxRecDepth 100000 in
set_option maxHeartbeats 1000000 in
theorem freeR_any (B : Nat → Prop) (r : Nat) (D : Dk) (A : Option Addr) (n c : Nat) (xs : List Fc) (w : World) (h : RkAt w B r D A n c xs) (n0 : 0 ≤ D.n) (n1 : D.n ≤ 1099511627776) (hu : usedF D.files ≤ 1000000000000000) :
    Calls Tryz.prog 85 #[.pointer (some ⟨r, 0, none⟩)] w fun e w' => e = .returned (.int .i64 (D.n - usedF D.files)) ∧ ∃ q, w' = w.drewN q := by
  have c1 : w.cell? ⟨r, 1, none⟩ = some (.slice A n c) := h.blk.cell 1
  have c0 : w.cell? ⟨r, 0, none⟩ = some (.int .i64 D.n) := h.blk.cell 0
  have hnc := h.nc
  have hcm := h.cm
  have hlen := h.len
  have HR := Lib.hid h.row
  have hus : usedF (xs.map (·.f)) = usedF D.files := usedF_perm h.fs.perm
  have HLEN := Lib.hid hlen
  obtain ⟨N, hN⟩ : ∃ N, D.n = N := ⟨_, rfl⟩
  obtain ⟨U, hU⟩ : ∃ U, usedF D.files = U := ⟨_, rfl⟩
  rw [hN] at c0 n0 n1
  rw [hU] at hu hus
  rw [hN, hU]
  have HUS := Lib.hid hus
  clear h hlen hus hU hN
  go_enter Tryz.func85, Tryz.ntmps85
  go_wp2_with fail
  go_loopw [3, 4] (fun v i wr => ∃ k q : Nat, k ≤ n ∧ i = .int .i64 k ∧ v = .int .i64 (N - usedF ((xs.map (·.f)).take k)) ∧ wr = w.drewN q) (fun _ i _ => n - (intOf i).toNat)
  case atStart => exact ⟨0, 0, Nat.zero_le _, rfl, by simp [usedF], rfl⟩
  case round =>
    obtain ⟨k, q, hk, rfl, rfl, rfl⟩ := hrel
    by_cases hlt : k < n
    · obtain ⟨b, o, x, rfl, hx, g0, g1, g2⟩ := HR.out.file hlt
      have hX : (xs.map (·.f))[k]? = some x.f := by rw [List.getElem?_map, hx]; rfl
      have hut := usedF_take hX
      have hle := usedF_take_le (xs.map (·.f)) (k + 1)
      have hle2 := usedF_take_le (xs.map (·.f)) k
      rw [HUS.out] at hle hle2
      obtain ⟨a, ha⟩ : ∃ a, N - usedF ((xs.map (·.f)).take k) = a := ⟨_, rfl⟩
      obtain ⟨nm, hnm⟩ : ∃ nm, x.f.name = nm := ⟨_, rfl⟩
      obtain ⟨bl, hbl⟩ : ∃ bl, x.f.bytes.length = bl := ⟨_, rfl⟩
      unfold costF at hut
      rw [hnm, hbl] at hut
      rw [hnm] at g0
      rw [hbl] at g2
      have HUT : Hid (N - usedF ((xs.map (·.f)).take (k + 1)) = a - 16 - (nm.size : Int) - (bl : Int)) := by show _ = _; omega
      have i1 : (0 : Int) ≤ (k : Int) := by omega
      have i2 : (k : Int) < (n : Int) := by omega
      obtain ⟨e1, e2, e3⟩ : IntKind.i64.wrap (a - 16) = a - 16 ∧ IntKind.i64.wrap (a - 16 - (nm.size : Int)) = a - 16 - (nm.size : Int) ∧ IntKind.i64.wrap (a - 16 - (nm.size : Int) - (bl : Int)) = a - 16 - (nm.size : Int) - (bl : Int) :=
        ⟨IntWalk.i64_in _ (by omega), IntWalk.i64_in _ (by omega), IntWalk.i64_in _ (by omega)⟩
      rw [ha]
      clear g1 hx hX hut hle hle2 ha hnm hbl
      go_wp2_with fail
      go_quiet (fail)
      clear e1 e2 e3
      go_wp2_with fail
      go_roundw
      case rel => exact ⟨k + 1, _, by omega, by go_num, by rw [HUT.out], rfl⟩
      case measure => simp [intOf]; omega
    · obtain rfl : k = n := by omega
      go_wp2_with fail
      go_ret
      refine ⟨?_, q, rfl⟩
      rw [List.take_of_length_le (by simp [HLEN.out]), HUS.out]
      rfl

end Go.Proofs.YtgdamcimpgapgaaGreatDoor

/- The reference's disk: a row of files grows; put, drop. -/
namespace Go.Proofs.YtgdamcimpgapgaaGreatDoor
open Go.RowKit

section
variable {P : Program} (w : World)
/-- append of files (three cells each) onto a row of the call's own. -/
theorem run_app3 (base : Nat) (t ty e : TypeId) (i : TypeInfo) (z : Value) (bytes : Nat) (ht : P.underlying t = some (.slice e)) (hi : P.info? e = some i) (hz : i.zero = some z)
    (hsize : i.size = 3) (hby : i.bytes = bytes) (hzs : z.cells.size = 3)
    (v : Value) (n : Nat) (xs : List Value) (hown : w.ownsRow base e 3 v n xs)
    (A : Option Addr) (m c : Nat) (news : List Value) (hr : Rd w A (m * 3) news) (h1 : ∀ u ∈ news, u.oneCell' = true)
    (h63 : n + m ≤ maxLen) (hbytes : (n + m) * bytes ≤ 140737488355328) (hbase : base ≤ w.heap.size) :
    ∃ v' w', (Builtin.append_ #[t, t] ty #[v, .slice A m c]).run P w = .ok v' w' ∧ w'.ownsRow base e 3 v' (n + m) (xs ++ news) ∧ w.grownBy w' v.ownBlock ∧
      (v'.ownBlock = v.ownBlock ∨ v'.ownBlock = some w.heap.size) := by
  rcases A with _ | ad
  · have hm : m = 0 := by
      rcases Nat.eq_zero_or_pos m with h0 | h0
      · exact h0
      · obtain ⟨b, o, h, _⟩ := hr.2 (by omega)
        cases h
    subst hm
    have hn : news = [] := List.eq_nil_of_length_eq_zero (by have := hr.1; omega)
    subst hn
    exact ⟨v, w, app_nil w base t ty e i 3 ht hi v n xs hown c, by simpa using hown, World.grownBy.refl w _, .inl rfl⟩
  · have hcells : ∀ j u, news[j]? = some u → w.cell? (ad.add j) = some u := by
      intro j u hu
      rcases Nat.eq_zero_or_pos m with h0 | h0
      · subst h0
        have hn : news = [] := List.eq_nil_of_length_eq_zero (by have := hr.1; omega)
        subst hn
        simp at hu
      · obtain ⟨b, o, h, hc⟩ := hr.2 (by omega)
        injection h with h
        subst h
        have := hc j u hu
        unfold Addr.add
        split
        · rename_i e; subst e; simpa using this
        · simpa using this
    obtain ⟨v', w', hrun, h2, h3, _, h5⟩ := run_append_own_at (P := P) w base t ty e i z 3 bytes ht hi hz hsize hby hzs (by omega) v n xs hown ad m c news (by rw [hr.1]) hcells h1 h63 hbytes hbase
    exact ⟨v', w', hrun, h2, h3, h5⟩
end

theorem flat3_one (xs : List Fc) : ∀ u ∈ flat3 xs, u.oneCell' = true := by
  induction xs with
  | nil => simp [flat3]
  | cons b r ih =>
    intro u hu
    rw [flat3, List.mem_append] at hu
    rcases hu with hu | hu
    · simp only [Fc.cells, List.mem_cons, List.not_mem_nil, or_false] at hu
      rcases hu with rfl | rfl | rfl <;> rfl
    · exact ih u hu
theorem rowF : ∃ i z, Tryz.prog.info? 44 = some i ∧ i.zero = some z ∧ i.size = 3 ∧ i.bytes = 48 ∧ z.cells.size = 3 := by
  obtain ⟨i, hi, h1, h2, h3⟩ := info_parts (P := Tryz.prog) (e := 44) (z := .agg #[.string ⟨#[]⟩, .int .i64 0, .slice none 0 0]) (size := 3) (bytes := 48) (by kernel_rfl)
  exact ⟨i, _, hi, h1, h2, h3, rfl⟩
theorem wpList_appF (w : World) {ops : Array Oper} {rest : List Oper} {o : Oper} {a : Act} {Q : Exit → Act → World → Prop} (hgd : o.guard = none) (s x : Operand)
    (ho : o.op = .call { callee := .builtin .append, args := #[s, x], argTypes := #[41, 41] })
    (base : Nat) (v : Value) (n : Nat) (xs : List Fc) (hs : a.eval s = v) (hown : w.ownsRow base 44 3 v n (flat3 xs))
    (A : Option Addr) (m c : Nat) (news : List Fc) (hx : a.eval x = .slice A m c) (hr : Rd w A (m * 3) (flat3 news))
    (h63 : n + m ≤ 1000000000000) (hbase : base ≤ w.heap.size)
    (h : ∀ A' c' w', n + m ≤ c' → c' ≤ 9223372036854775807 → w'.ownsRow base 44 3 (.slice A' (n + m) c') (n + m) (flat3 (xs ++ news)) → w.grownBy w' v.ownBlock → (blkOf A' = v.ownBlock ∨ blkOf A' = some w.heap.size) → wpList Tryz.prog ops Q rest (a.put o.dst (.slice A' (n + m) c')) w') : wpList Tryz.prog ops Q (o :: rest) a w := by
  obtain ⟨i, z, hi, hz, hs1, hb, hzs⟩ := rowF
  refine wpList_plain hgd fun K hK => ?_
  obtain ⟨v', w', hrun, h2, h3, h4⟩ := run_app3 (P := Tryz.prog) w base 41 o.type 44 i z 48 Tryz.underlying41 hi hz hs1 hb hzs v n (flat3 xs) hown A m c (flat3 news) hr (flat3_one _) (by simp only [maxLen]; omega) (by omega) hbase
  obtain ⟨A', c', rfl, hc, hcm⟩ := own_slice h2
  unfold Oper.wp execOp
  simp only [ho, resolve, invoke, builtin, Sem.run_bind, Sem.run_pure, Result.andThen_ok, List.map_toArray, List.map_cons, List.map_nil, hs, hx, hrun]
  rw [← flat3_append] at h2
  exact hK _ _ (h A' c' w' hc (by have : maxLen = 9223372036854775807 := rfl; omega) h2 h3 (by cases A' <;> exact h4))

/-- one file in a block of its own. -/
theorem one_file (w : World) (t : TypeId) (x : Fc) : Rd (w.alloc (.cells #[.string x.f.name, .int .i64 (x.f.safe : Int), .slice x.A x.f.bytes.length x.c] t)) (some ⟨w.heap.size, 0, none⟩) (1 * 3) (flat3 [x]) := by
  refine ⟨rfl, fun _ => ⟨w.heap.size, 0, rfl, fun j u hu => ?_⟩⟩
  rw [Nat.zero_add, cell_of_row _ _ j _ t (0, 0) (heap_alloc_new w _)]
  match j, hu with
  | 0, hu => exact hu
  | 1, hu => exact hu
  | 2, hu => exact hu

end Go.Proofs.YtgdamcimpgapgaaGreatDoor
