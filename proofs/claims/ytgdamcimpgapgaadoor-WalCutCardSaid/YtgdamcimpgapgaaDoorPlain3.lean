/- A disk with at most one file, and the power going off. Plain. -/
import Derived.Test.YtgdamcimpgapgaaDoorPlain2
import Derived.Test.YtgdamcimpgapgaaDoorCrash
namespace Go.Proofs.YtgdamcimpgapgaaDoor
open Go.RowKit

/-- the disk holds one file, or none (then there are no bytes). -/
def One (nm : ByteArray) (D : Dk) (ex : Bool) (s : Nat) (bs : List UInt8) : Prop := D.files = (if ex = true then [⟨nm, s, bs⟩] else []) ∧ (ex = false → bs = [] ∧ s = 0)

theorem One.find {nm : ByteArray} {D : Dk} {s : Nat} {bs : List UInt8} (h : One nm D true s bs) : findF D.files nm = some ⟨nm, s, bs⟩ := by
  rw [h.1]; simp [findF]
theorem One.lost {nm : ByteArray} {D : Dk} {s : Nat} {bs : List UInt8} (h : One nm D false s bs) : findF D.files nm = none := by
  rw [h.1]; simp [findF]

/-- what a raw write does: done, or the power goes. -/
theorem spend_two {D : Dk} {more : Int} (hr : more ≤ D.n - D.used) :
    (spendE D more = 0 ∧ spendD D more = { D with left := max (D.left - 1) (-1), done := wrap64 (D.done + 1), used := D.used + more }) ∨ (spendE D more = 5 ∧ spendD D more = { D with off := true, left := -1 }) := by
  by_cases hl : D.left = 0
  · exact .inr ⟨by unfold spendE; rw [if_neg (by omega), if_pos hl], by unfold spendD; rw [if_neg (by omega), if_pos hl]⟩
  · exact .inl ⟨by unfold spendE; rw [if_neg (by omega), if_neg hl], by unfold spendD; rw [if_neg (by omega), if_neg hl]⟩

/-- one piece appended. -/
theorem piece_two {nm : ByteArray} {D : Dk} {ex : Bool} {s : Nat} {bs : List UInt8} (hn : named nm = true) (ho : One nm D ex s bs) (hoff : D.off = false) {b : List UInt8} (hb : b.length ≤ 4096)
    (hr : (if ex = true then (b.length : Int) else 16 + nm.size + b.length) ≤ D.n - D.used) :
    (appendE D nm b = 0 ∧ (appendD D nm b).off = false ∧ (appendD D nm b).n = D.n ∧ (appendD D nm b).used = D.used + (if ex = true then (b.length : Int) else 16 + nm.size + b.length) ∧ One nm (appendD D nm b) true s (bs ++ b)) ∨
    (appendE D nm b = 5 ∧ (appendD D nm b).off = true ∧ (appendD D nm b).files = D.files) := by
  have hm : moreA D nm b.length = if ex = true then (b.length : Int) else 16 + nm.size + b.length := by
    unfold moreA
    cases ex
    · rw [ho.lost]; rfl
    · rw [ho.find]; rfl
  have hE : appendE D nm b = spendE D (moreA D nm b.length) := by unfold appendE; rw [if_pos ⟨hn, hb⟩, if_neg (by rw [hoff]; simp)]
  have hD : appendD D nm b = if spendE D (moreA D nm b.length) = 0 then { spendD D (moreA D nm b.length) with files := putF D.files (fileA D nm b) } else spendD D (moreA D nm b.length) := by
    unfold appendD; rw [if_pos ⟨hn, hb, hoff⟩]
  rcases spend_two (D := D) (more := moreA D nm b.length) (by rw [hm]; exact hr) with ⟨h1, h2⟩ | ⟨h1, h2⟩
  · refine .inl ⟨by rw [hE, h1], ?_⟩
    rw [hD, if_pos h1, h2]
    refine ⟨hoff, rfl, by simp only [hm], ?_, fun h => by cases h⟩
    show putF D.files (fileA D nm b) = _
    cases ex
    · have : fileA D nm b = ⟨nm, 0, b⟩ := by unfold fileA; rw [ho.lost]
      rw [this, ho.1, (ho.2 rfl).1, (ho.2 rfl).2]
      rfl
    · have : fileA D nm b = ⟨nm, s, bs ++ b⟩ := by unfold fileA; rw [ho.find]
      rw [this, ho.1]
      simp [putF]
  · refine .inr ⟨by rw [hE, h1], ?_⟩
    rw [hD, if_neg (by omega), h2]
    exact ⟨rfl, rfl⟩

theorem appAll_err {nm : ByteArray} {D : Dk} {b : List UInt8} {l : List (List UInt8)} (h : appendE D nm b ≠ 0) : appAll nm D (b :: l) = (appendD D nm b, appendE D nm b) := by
  unfold appAll
  rw [List.foldl_cons]
  have e : appStep nm (D, 0) b = (appendD D nm b, appendE D nm b) := by unfold appStep; rw [if_pos rfl]
  rw [e]
  exact appStep_stop (by exact h) l

/-- all pieces appended, or the power went. -/
theorem all_two {nm : ByteArray} (hn : named nm = true) : ∀ (l : List (List UInt8)) (D : Dk) (ex : Bool) (s : Nat) (bs : List UInt8), One nm D ex s bs → D.off = false → (∀ b ∈ l, b.length ≤ 4096) →
    (l.flatten.length : Int) + 16 + nm.size ≤ D.n - D.used →
    ((appAll nm D l).2 = 0 ∧ (appAll nm D l).1.off = false ∧ (appAll nm D l).1.n = D.n ∧ (appAll nm D l).1.used ≤ D.used + l.flatten.length + 16 + nm.size ∧ One nm (appAll nm D l).1 (ex || !l.isEmpty) s (bs ++ l.flatten)) ∨
    ((appAll nm D l).2 = 5 ∧ (appAll nm D l).1.off = true ∧ ∃ ex' part, One nm (appAll nm D l).1 ex' s (bs ++ part) ∧ part <+: l.flatten ∧ (ex = true → ex' = true))
  | [], D, ex, s, bs, ho, hoff, _, hr => .inl ⟨rfl, hoff, rfl, by show D.used ≤ _; simp; omega, by simpa [appAll] using ho⟩
  | b :: l, D, ex, s, bs, ho, hoff, hl, hr => by
    simp only [List.flatten_cons, List.length_append] at hr
    rcases piece_two hn ho hoff (hl b (.head _)) (by split <;> omega) with ⟨h1, h2, h3, h4, h5⟩ | ⟨h1, h2, h3⟩
    · rw [appAll_cons h1]
      cases ex with
      | true =>
        rw [if_pos rfl] at h4
        rcases all_two hn l (appendD D nm b) true s (bs ++ b) h5 h2 (fun x hx => hl x (.tail _ hx)) (by rw [h3, h4]; omega) with ⟨g1, g2, g3, g4, g5⟩ | ⟨g1, g2, ex', part, g3, g4, g5⟩
        · refine .inl ⟨g1, g2, by rw [g3, h3], ?_, ?_⟩
          · simp only [List.flatten_cons, List.length_append]; omega
          · rw [List.append_assoc] at g5; simpa using g5
        · refine .inr ⟨g1, g2, ex', b ++ part, by rw [← List.append_assoc]; exact g3, ?_, fun _ => g5 rfl⟩
          obtain ⟨r, hr⟩ := g4
          exact ⟨r, by rw [List.flatten_cons, List.append_assoc, hr]⟩
      | false =>
        rw [if_neg (by simp)] at h4
        by_cases hll : l = []
        · subst hll
          refine .inl ⟨rfl, h2, h3, ?_, ?_⟩
          · show (appendD D nm b).used ≤ _
            rw [h4]; simp; omega
          · show One nm (appendD D nm b) _ _ _
            simpa using h5
        · have key : ∀ (l : List (List UInt8)) (D : Dk) (bs : List UInt8), One nm D true s bs → D.off = false → (∀ b ∈ l, b.length ≤ 4096) → (l.flatten.length : Int) ≤ D.n - D.used →
            ((appAll nm D l).2 = 0 ∧ (appAll nm D l).1.off = false ∧ (appAll nm D l).1.n = D.n ∧ (appAll nm D l).1.used = D.used + l.flatten.length ∧ One nm (appAll nm D l).1 true s (bs ++ l.flatten)) ∨
            ((appAll nm D l).2 = 5 ∧ (appAll nm D l).1.off = true ∧ ∃ part, One nm (appAll nm D l).1 true s (bs ++ part) ∧ part <+: l.flatten) := by
            intro l
            induction l with
            | nil => intro D bs ho hoff _ _; exact .inl ⟨rfl, hoff, rfl, by show D.used = _; simp, by simpa [appAll] using ho⟩
            | cons c l ih =>
              intro D bs ho hoff hl hr
              simp only [List.flatten_cons, List.length_append] at hr
              rcases piece_two hn ho hoff (hl c (.head _)) (by rw [if_pos rfl]; omega) with ⟨h1, h2, h3, h4, h5⟩ | ⟨h1, h2, h3⟩
              · rw [appAll_cons h1]
                rw [if_pos rfl] at h4
                rcases ih (appendD D nm c) (bs ++ c) h5 h2 (fun x hx => hl x (.tail _ hx)) (by rw [h3, h4]; omega) with ⟨g1, g2, g3, g4, g5⟩ | ⟨g1, g2, part, g3, g4⟩
                · refine .inl ⟨g1, g2, by rw [g3, h3], ?_, ?_⟩
                  · simp only [List.flatten_cons, List.length_append]; omega
                  · rw [List.append_assoc] at g5; simpa using g5
                · refine .inr ⟨g1, g2, c ++ part, by rw [← List.append_assoc]; exact g3, ?_⟩
                  obtain ⟨r, hr⟩ := g4
                  exact ⟨r, by rw [List.flatten_cons, List.append_assoc, hr]⟩
              · rw [appAll_err (by omega)]
                refine .inr ⟨h1, h2, [], ⟨by rw [h3, List.append_nil]; exact ho.1, fun h => by cases h⟩, List.nil_prefix⟩
          rcases key l (appendD D nm b) (bs ++ b) h5 h2 (fun x hx => hl x (.tail _ hx)) (by rw [h3, h4]; omega) with ⟨g1, g2, g3, g4, g5⟩ | ⟨g1, g2, part, g3, g4⟩
          · refine .inl ⟨g1, g2, by rw [g3, h3], ?_, ?_⟩
            · simp only [List.flatten_cons, List.length_append]; omega
            · rw [List.append_assoc] at g5; simpa using g5
          · refine .inr ⟨g1, g2, true, b ++ part, by rw [← List.append_assoc]; exact g3, ?_, fun h => by cases h⟩
            obtain ⟨r, hr⟩ := g4
            exact ⟨r, by rw [List.flatten_cons, List.append_assoc, hr]⟩
    · rw [appAll_err (by omega)]
      refine .inr ⟨h1, h2, ex, [], ⟨by rw [h3, List.append_nil]; exact ho.1, by rw [List.append_nil]; exact ho.2⟩, List.nil_prefix, fun h => h⟩

/-- a body added: it stands, surely; or the power went, and a part of its frame stands, unsure. -/
theorem add_two {nm : ByteArray} {D : Dk} {n : Int} (h0 : 0 ≤ n) (h1 : n ≤ 1099511627776) (hnm : nm = nameW n) {ex : Bool} {s : Nat} {bs : List UInt8} (ho : One nm D ex s bs) (hoff : D.off = false) {b : List UInt8} (hb : b.length ≤ 1048576)
    (hr : 1100000 ≤ D.n - D.used) :
    ((addB D n b).2 = 0 ∧ (addB D n b).1.off = false ∧ (addB D n b).1.n = D.n ∧ (addB D n b).1.used ≤ D.used + 1100000 ∧ One nm (addB D n b).1 true (bs ++ frameB b).length (bs ++ frameB b)) ∨
    ((addB D n b).2 = 5 ∧ (addB D n b).1.off = true ∧ ∃ ex' part, One nm (addB D n b).1 ex' s (bs ++ part) ∧ part <+: frameB b ∧ (ex = true → ex' = true)) := by
  subst hnm
  have hn := nameW_named h0 h1
  have hsz := nameW_size n
  have hfl := frameB_len hb
  have hpos := frameB_pos b
  obtain ⟨hf, hp⟩ := pieces_flat _ (frameB b) (Nat.le_refl _)
  have hnd : needW D n b ≤ (frameB b).length + 33 := by unfold needW; split <;> omega
  have e : addB D n b = if (appAll (nameW n) D (piecesB (frameB b))).2 = 0 then (syncD (appAll (nameW n) D (piecesB (frameB b))).1 (nameW n), syncE (appAll (nameW n) D (piecesB (frameB b))).1 (nameW n)) else appAll (nameW n) D (piecesB (frameB b)) := by
    unfold addB
    rw [if_pos ⟨h0, h1, hb⟩, if_neg (by rw [hoff]; simp), if_neg (by omega)]
  have hne : (piecesB (frameB b)).isEmpty = false := by
    cases hpc : piecesB (frameB b) with
    | nil => rw [hpc] at hf; rw [← hf] at hpos; simp at hpos
    | cons _ _ => rfl
  rcases all_two hn (piecesB (frameB b)) D ex s bs ho hoff hp (by rw [hf]; omega) with ⟨g1, g2, g3, g4, g5⟩ | ⟨g1, g2, ex', part, g3, g4, g5⟩
  · rw [hf, hne] at g5
    rw [hf] at g4
    simp only [Bool.not_false, Bool.or_true] at g5
    rw [e, if_pos g1]
    generalize (appAll (nameW n) D (piecesB (frameB b))).1 = D1 at *
    have hfi := g5.find
    have hE : syncE D1 (nameW n) = spendE D1 0 := by unfold syncE; rw [if_pos hn, if_neg (by rw [g2]; simp), if_pos (by rw [hfi]; rfl)]
    have hD : syncD D1 (nameW n) = if spendE D1 0 = 0 then { spendD D1 0 with files := putF D1.files ⟨nameW n, (bs ++ frameB b).length, bs ++ frameB b⟩ } else spendD D1 0 := by
      unfold syncD; rw [if_pos ⟨hn, g2⟩, hfi]
    rcases spend_two (D := D1) (more := 0) (by omega) with ⟨k1, k2⟩ | ⟨k1, k2⟩
    · refine .inl ⟨by rw [hE, k1], ?_⟩
      rw [hD, if_pos k1, k2]
      refine ⟨g2, g3, by simp only; omega, ?_, fun h => by cases h⟩
      show putF D1.files _ = _
      rw [g5.1]
      simp [putF]
    · refine .inr ⟨by rw [hE, k1], ?_⟩
      rw [hD, if_neg (by omega), k2]
      exact ⟨rfl, true, frameB b, g5, List.prefix_refl _, fun _ => rfl⟩
  · rw [hf] at g4
    rw [e, if_neg (by omega)]
    exact .inr ⟨g1, g2, ex', part, g3, g4, g5⟩

end Go.Proofs.YtgdamcimpgapgaaDoor
