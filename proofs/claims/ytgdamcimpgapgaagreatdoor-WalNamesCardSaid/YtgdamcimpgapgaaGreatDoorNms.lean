/- The names of the files behind Adds; sorted names are rising numbers. Plain. -/
import Derived.Test.YtgdamcimpgapgaaGreatDoorPlain6
namespace Go.Proofs.YtgdamcimpgapgaaGreatDoor
open Go.RowKit

theorem find_mem_iff {nm : ByteArray} : ∀ {fs : List Fl}, (findF fs nm).isSome = true ↔ nm ∈ fs.map (·.name)
  | [] => by simp [findF]
  | f :: r => by
    rw [findF]
    split
    · rename_i h
      simp [h]
    · rename_i h
      rw [find_mem_iff, List.map_cons, List.mem_cons]
      exact ⟨.inr, fun e => e.resolve_left fun e => h e.symm⟩
theorem grew_len {D D' : Dk} {nm : ByteArray} {bs : List UInt8} {x : Int} (ok : DkOk D) (ok' : DkOk D') (g : Grew D D' nm bs x) :
    D'.files.length = D.files.length + if (findF D.files nm).isSome = true then 0 else 1 := by
  have key : ∀ k, k ∈ D'.files.map (·.name) ↔ k = nm ∨ k ∈ D.files.map (·.name) := by
    intro k
    by_cases hk : k = nm
    · subst hk
      obtain ⟨s, hs⟩ := g.file
      exact ⟨fun _ => .inl rfl, fun _ => find_mem_iff.1 (by rw [hs]; rfl)⟩
    · rw [← find_mem_iff, ← find_mem_iff, g.other k hk]
      exact ⟨.inr, fun e => e.resolve_left hk⟩
  split
  · rename_i h
    have hp : (D'.files.map (·.name)).Perm (D.files.map (·.name)) := (List.perm_ext_iff_of_nodup ok'.nd ok.nd).2 fun k => by
      rw [key]
      exact ⟨fun e => e.elim (fun e => by rw [e]; exact find_mem_iff.1 h) id, .inr⟩
    simpa using hp.length_eq
  · rename_i h
    have hn : (nm :: D.files.map (·.name)).Nodup := List.nodup_cons.2 ⟨fun e => h (find_mem_iff.2 e), ok.nd⟩
    have hp : (D'.files.map (·.name)).Perm (nm :: D.files.map (·.name)) := (List.perm_ext_iff_of_nodup ok'.nd hn).2 fun k => by
      rw [key, List.mem_cons]
    simpa using hp.length_eq

/-- the files are segments, so many. -/
structure NmP (D : Dk) (q cnt : Nat) : Prop where
  ok : DkOk D
  calm : Calm D
  n : D.n = 1099511627776
  used : D.used ≤ 1200000 * (q : Int)
  len : D.files.length = cnt
  names : ∀ f ∈ D.files, ∃ x : Nat, x ≤ 1099511627776 ∧ f.name = walName x
theorem NmP.start : NmP (newD 1099511627776) 0 0 := ⟨newD_ok (by omega) (by omega), ⟨rfl, rfl⟩, rfl, by simp [newD], rfl, by simp [newD]⟩
theorem NmP.later {D : Dk} {q q' cnt : Nat} (h : NmP D q cnt) (hq : q ≤ q') : NmP D q' cnt :=
  ⟨h.ok, h.calm, h.n, by have := h.used; have : (q : Int) ≤ (q' : Int) := by omega
                         omega, h.len, h.names⟩
theorem needx {D : Dk} {n : Int} {b : List UInt8} (hb : b.length ≤ 1048576) : needW D n b ≤ 1200000 := by
  have h1 := frameB_len hb
  have h2 := nameW_size n
  unfold needW
  split <;> omega
theorem NmP.add {D : Dk} {q cnt : Nat} (h : NmP D q cnt) {x : Int} (h0 : 0 ≤ x) (h1 : x ≤ 1099511627776) (hq : q ≤ 100) {b : List UInt8} (hb : b.length ≤ 1048576) :
    (addB D x b).2 = 0 ∧ NmP (addB D x b).1 (q + 1) (cnt + if (findF D.files (nameW x)).isSome = true then 0 else 1) := by
  have hn := needx (D := D) (n := x) hb
  have hu := h.used
  have hN := h.n
  obtain ⟨a, g⟩ := add_grew h.calm h.ok h0 h1 hb (by omega)
  refine ⟨a, add_ok h.ok x b, g.calm, by rw [g.n, hN], by rw [g.used]; push_cast; omega, ?_, fun f hf => ?_⟩
  · rw [grew_len h.ok (add_ok h.ok x b) g, h.len]
  · rcases add_names D x b f hf with e | e
    · exact ⟨x.toNat, by omega, by rw [e, nameW_yes h0 h1]⟩
    · obtain ⟨f', hf', e'⟩ := List.mem_map.1 e
      rw [← e']; exact h.names f' hf'
theorem add_wrong {D : Dk} {n : Int} {b : List UInt8} (h : ¬ (0 ≤ n ∧ n ≤ 1099511627776)) : addB D n b = (D, 1) := by
  unfold addB; rw [if_neg (fun e => h ⟨e.1, e.2.1⟩)]
theorem nameW_17 {x : Int} (h0 : 0 ≤ x) (h1 : x ≤ 1099511627776) : (nameW x).size = 17 := by
  rw [nameW_yes h0 h1, walName_dig (by omega)]
  simp [ByteArray.size, digF_len]
theorem nameW_0 {x : Int} (h : ¬ (0 ≤ x ∧ x ≤ 1099511627776)) : (nameW x).size = 0 := by
  unfold nameW; rw [if_neg h]; rfl

/-- what Names tells of them: as many, rising, there. -/
theorem names_rise {D : Dk} (ok : DkOk D) {L : List ByteArray} (hL : NamesAre D L) {xs : List Nat} (hx : L = xs.map walName) (hb : ∀ x ∈ xs, x ≤ 1099511627776) :
    xs.length = D.files.length ∧ (∀ i a b, xs[i]? = some a → xs[i + 1]? = some b → a < b) ∧ ∀ x ∈ xs, (findF D.files (walName x)).isSome = true := by
  obtain ⟨ss, hp, hLe⟩ := hL
  have hlen : xs.length = D.files.length := by
    have h1 := congrArg List.length hLe
    have h2 := hp.length_eq
    rw [hx] at h1
    simp at h1 h2
    omega
  have hmem : ∀ nm, nm ∈ L ↔ nm ∈ D.files.map (·.name) := by
    intro nm
    rw [hLe]
    constructor
    · intro h
      obtain ⟨l, hl, rfl⟩ := List.mem_map.1 h
      have h2 := hp.mem_iff.1 (List.mem_mergeSort.1 hl)
      obtain ⟨f, hf, he⟩ := List.mem_map.1 h2
      exact List.mem_map.2 ⟨f, hf, by rw [← he]⟩
    · intro h
      obtain ⟨f, hf, rfl⟩ := List.mem_map.1 h
      exact List.mem_map.2 ⟨f.name.data.toList, List.mem_mergeSort.2 (hp.mem_iff.2 (List.mem_map.2 ⟨f, hf, rfl⟩)), rfl⟩
  refine ⟨hlen, ?_, fun x hxx => find_mem_iff.2 ((hmem _).1 (by rw [hx]; exact List.mem_map.2 ⟨x, hxx, rfl⟩))⟩
  have hsort : (ss.mergeSort fun x y => decide (x ≤ y)).Pairwise (fun a b => a ≤ b) := by
    have := List.pairwise_mergeSort (le := fun x y : List UInt8 => decide (x ≤ y)) (fun a b c h1 h2 => by
      simp only [decide_eq_true_eq] at *
      exact List.le_trans h1 h2) (fun a b => by
      simp only [Bool.or_eq_true, decide_eq_true_eq]
      exact List.le_total a b) ss
    exact this.imp fun h => by simpa using h
  have hnd : (ss.mergeSort fun x y => decide (x ≤ y)).Nodup := by
    refine ((List.mergeSort_perm ss _).trans hp).nodup_iff.2 ?_
    have h3 := ok.nd
    have h4 : (D.files.map fun f => f.name.data.toList) = (D.files.map (·.name)).map fun s : ByteArray => s.data.toList := by rw [List.map_map]; rfl
    rw [h4]
    refine List.Pairwise.map _ (fun a b hab e => hab ?_) h3
    have := Array.toList_inj.1 e
    cases a; cases b; simp_all
  have hlist : (ss.mergeSort fun x y => decide (x ≤ y)) = xs.map fun x => (walName x).data.toList := by
    have := congrArg (List.map fun s : ByteArray => s.data.toList) (hLe.symm.trans hx)
    simpa [List.map_map, Function.comp_def] using this
  intro i a b ha hb'
  have hi : i + 1 < xs.length := (List.getElem?_eq_some_iff.1 hb').1
  have ha2 := List.getElem?_eq_some_iff.1 ha
  have hb2 := List.getElem?_eq_some_iff.1 hb'
  obtain ⟨hia, hae⟩ := ha2
  obtain ⟨hib, hbe⟩ := hb2
  rw [hlist] at hsort hnd
  have h1 := List.pairwise_iff_getElem.1 hsort i (i + 1) (by simpa using hia) (by simpa using hib) (by omega)
  have h2 := List.pairwise_iff_getElem.1 hnd i (i + 1) (by simpa using hia) (by simpa using hib) (by omega)
  simp only [List.getElem_map, hae, hbe] at h1 h2
  have hba := hb a (List.mem_of_getElem? ha)
  have hbb := hb b (List.mem_of_getElem? hb')
  rcases Nat.lt_or_ge a b with h | h
  · exact h
  · rcases Nat.lt_or_ge b a with h3 | h3
    · have h5 := (walName_lt hbb hba).2 h3
      exact absurd h5 (by rw [List.not_lt]; exact h1)
    · obtain rfl : a = b := by omega
      exact absurd rfl h2

end Go.Proofs.YtgdamcimpgapgaaGreatDoor
