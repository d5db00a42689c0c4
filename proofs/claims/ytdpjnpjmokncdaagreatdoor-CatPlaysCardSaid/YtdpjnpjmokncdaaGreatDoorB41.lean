/- A disk that is never cut. Plain. -/
import Derived.Test.YtdpjnpjmokncdaaGreatDoorB40
import Derived.Test.YtdpjnpjmokncdaaGreatDoorB24
import Derived.Test.YtdpjnpjmokncdaaGreatDoorB09
namespace Go.Proofs.YtdpjnpjmokncdaaGreatDoor
open Go.RowKit

structure Calm (D : Dk) : Prop where
  off : D.off = false
  left : D.left = -1

/-- the file's bytes, none: none. -/
def fileB (D : Dk) (nm : ByteArray) : List UInt8 := match findF D.files nm with
  | some f => f.bytes
  | none => []

/-- one file grew to these bytes, at a cost. -/
structure Grew (D D' : Dk) (nm : ByteArray) (bs : List UInt8) (cost : Int) : Prop where
  calm : Calm D'
  n : D'.n = D.n
  used : D'.used = D.used + cost
  file : ∃ s, findF D'.files nm = some ⟨nm, s, bs⟩
  other : ∀ k, k ≠ nm → findF D'.files k = findF D.files k

theorem Grew.trans {D D' D'' : Dk} {nm : ByteArray} {bs cs : List UInt8} {x y : Int} (h : Grew D D' nm bs x) (k : Grew D' D'' nm cs y) : Grew D D'' nm cs (x + y) :=
  ⟨k.calm, k.n.trans h.n, by rw [k.used, h.used]; omega, k.file, fun q hq => (k.other q hq).trans (h.other q hq)⟩

theorem spend_calm {D : Dk} (c : Calm D) {more : Int} (h : more ≤ D.n - D.used) : spendE D more = 0 ∧ spendD D more = { D with left := -1, done := wrap64 (D.done + 1), used := D.used + more } := by
  have h0 : spendE D more = 0 := by
    unfold spendE
    rw [if_neg (by omega), if_neg (by rw [c.left]; omega)]
  refine ⟨h0, ?_⟩
  rw [(spendE_zero h0).2.2, c.left]
  rfl

theorem fileA_name (D : Dk) (nm : ByteArray) (b : List UInt8) : (fileA D nm b).name = nm := by unfold fileA; split <;> rfl
theorem append_grew {D : Dk} (c : Calm D) {nm : ByteArray} (hn : named nm = true) {b : List UInt8} (hb : b.length ≤ 4096) (h : moreA D nm b.length ≤ D.n - D.used) :
    appendE D nm b = 0 ∧ Grew D (appendD D nm b) nm (fileB D nm ++ b) (moreA D nm b.length) := by
  obtain ⟨h0, h1⟩ := spend_calm c h
  have e0 : appendE D nm b = 0 := by unfold appendE; rw [if_pos ⟨hn, hb⟩, if_neg (by rw [c.off]; simp), h0]
  have e1 : appendD D nm b = { spendD D (moreA D nm b.length) with files := putF D.files (fileA D nm b) } := by unfold appendD; rw [if_pos ⟨hn, hb, c.off⟩, if_pos h0]
  refine ⟨e0, ?_⟩
  rw [e1, h1]
  have hnm := fileA_name D nm b
  refine ⟨⟨c.off, rfl⟩, rfl, rfl, ?_, fun k hk => ?_⟩
  · have := findF_put_same (fileA D nm b) D.files
    rw [hnm] at this
    simp only [this]
    unfold fileA fileB
    split
    · rename_i f hf; exact ⟨f.safe, by rw [hf]⟩
    · rename_i hf; exact ⟨0, by rw [hf]; rfl⟩
  · exact findF_put_other (fileA D nm b) (by rw [hnm]; exact fun e => hk e.symm) D.files

theorem sync_grew {D : Dk} (c : Calm D) {nm : ByteArray} (hn : named nm = true) (hu : D.used ≤ D.n) {f : Fl} (hf : findF D.files nm = some f) :
    syncE D nm = 0 ∧ Grew D (syncD D nm) nm f.bytes 0 := by
  obtain ⟨h0, h1⟩ := spend_calm c (more := 0) (by omega)
  have e0 : syncE D nm = 0 := by unfold syncE; rw [if_pos hn, if_neg (by rw [c.off]; simp), if_pos (by rw [hf]; rfl), h0]
  have e1 : syncD D nm = { spendD D 0 with files := putF D.files ⟨nm, f.bytes.length, f.bytes⟩ } := by unfold syncD; rw [if_pos ⟨hn, c.off⟩, hf]; simp only; rw [if_pos h0]
  refine ⟨e0, ?_⟩
  rw [e1, h1]
  refine ⟨⟨c.off, rfl⟩, rfl, rfl, ⟨_, findF_put_same ⟨nm, f.bytes.length, f.bytes⟩ D.files⟩, fun k hk => findF_put_other _ (fun e => hk e.symm) D.files⟩

theorem fileB_of {D : Dk} {nm : ByteArray} {f : Fl} (h : findF D.files nm = some f) : fileB D nm = f.bytes := by unfold fileB; rw [h]
theorem fileB_none {D : Dk} {nm : ByteArray} (h : findF D.files nm = none) : fileB D nm = [] := by unfold fileB; rw [h]
theorem appAll_cons {nm : ByteArray} {D : Dk} {b : List UInt8} {l : List (List UInt8)} (h : appendE D nm b = 0) : appAll nm D (b :: l) = appAll nm (appendD D nm b) l := by
  unfold appAll
  rw [List.foldl_cons]
  unfold appStep
  rw [if_pos rfl, h]

theorem appAll_has {nm : ByteArray} (hn : named nm = true) : ∀ (l : List (List UInt8)) (D : Dk) (f : Fl), Calm D → findF D.files nm = some f → (∀ b ∈ l, b.length ≤ 4096) → (l.flatten.length : Int) ≤ D.n - D.used →
    (appAll nm D l).2 = 0 ∧ Grew D (appAll nm D l).1 nm (f.bytes ++ l.flatten) l.flatten.length
  | [], D, f, c, hf, _, _ => by
    have hnm := find_name hf
    refine ⟨rfl, c, rfl, by simp [appAll], ⟨f.safe, ?_⟩, fun _ _ => rfl⟩
    show findF D.files nm = _
    rw [hf]
    cases f
    simp only at hnm
    simp [hnm]
  | b :: l, D, f, c, hf, hl, hr => by
    simp only [List.flatten_cons, List.length_append] at hr
    have hm : moreA D nm b.length = b.length := by unfold moreA; rw [hf]; rfl
    obtain ⟨h0, h1⟩ := append_grew c hn (hl b (.head _)) (by rw [hm]; omega)
    rw [hm] at h1
    obtain ⟨s, hs⟩ := h1.file
    obtain ⟨g0, g1⟩ := appAll_has hn l (appendD D nm b) _ h1.calm hs (fun x hx => hl x (.tail _ hx)) (by rw [h1.n, h1.used]; omega)
    rw [appAll_cons h0]
    refine ⟨g0, ?_⟩
    have := h1.trans g1
    rw [fileB_of hf, List.append_assoc] at this
    simp only [List.flatten_cons, List.length_append]
    rw [show ((b.length + l.flatten.length : Nat) : Int) = (b.length : Int) + (l.flatten.length : Int) by omega]
    exact this

theorem pieces_flat : ∀ (k : Nat) (l : List UInt8), l.length ≤ k → (piecesB l).flatten = l ∧ (∀ b ∈ piecesB l, b.length ≤ 4096) := by
  intro k
  induction k with
  | zero =>
    intro l h
    rw [piecesB, dif_pos (by omega)]
    have := List.eq_nil_of_length_eq_zero (show l.length = 0 by omega)
    exact ⟨by rw [this]; rfl, by simp⟩
  | succ k ih =>
    intro l h
    by_cases h0 : l.length = 0
    · rw [piecesB, dif_pos h0]
      have := List.eq_nil_of_length_eq_zero h0
      exact ⟨by rw [this]; rfl, by simp⟩
    · rw [piecesB, dif_neg h0]
      obtain ⟨h1, h2⟩ := ih (l.drop 4096) (by simp; omega)
      refine ⟨by rw [List.flatten_cons, h1, List.take_append_drop], fun b hb => ?_⟩
      rcases List.mem_cons.1 hb with rfl | hb
      · simp; omega
      · exact h2 b hb

theorem frameB_pos (b : List UInt8) : 0 < (frameB b).length := by
  unfold frameB
  simp only [List.length_append, high4, List.length_cons]
  omega

theorem frameB_len {b : List UInt8} (h : b.length ≤ 1048576) : (frameB b).length ≤ b.length + 13 := by
  have h9 := numB_len9 (n := b.length) (by omega)
  unfold frameB
  simp only [List.length_append, high4, List.length_cons, List.length_nil]
  omega

end Go.Proofs.YtdpjnpjmokncdaaGreatDoor
