/- disk: Remove. -/
import Derived.Test.YtgdamcimpgapgaaGreatDoorDisk5
import Derived.Test.YtgdamcimpgapgaaGreatDoorDiskP
namespace Go.Proofs.YtgdamcimpgapgaaGreatDoor
open Go.RowKit

def removeE (D : Dk) (nm : ByteArray) : Int :=
  if named nm = true then if D.off = true then 5 else match findF D.files nm with
    | none => 3
    | some f => spendE D (-costF f)
  else 1
def removeD (D : Dk) (nm : ByteArray) : Dk :=
  if named nm = true ∧ D.off = false then
    match findF D.files nm with
    | none => D
    | some f => if spendE D (-costF f) = 0 then { spendD D (-costF f) with files := delF D.files nm } else spendD D (-costF f)
  else D

theorem findF_del_other {nm k : ByteArray} (hk : nm ≠ k) : ∀ (fs : List Fl), findF (delF fs nm) k = findF fs k
  | [] => rfl
  | f :: r => by
    rw [delF]
    split
    · rename_i he
      rw [findF, if_neg (by rw [he]; exact hk)]
    · rw [findF, findF, findF_del_other hk r]
theorem usedF_del {nm : ByteArray} {f : Fl} : ∀ {fs : List Fl}, findF fs nm = some f → usedF (delF fs nm) = usedF fs - costF f
  | [], h => by cases h
  | g :: r, h => by
    rw [findF] at h
    rw [delF]
    split at h
    · rename_i he
      cases h
      rw [if_pos he, usedF]; omega
    · rename_i hn
      rw [if_neg hn, usedF, usedF, usedF_del h]; omega
theorem mem_del {nm : ByteArray} {f : Fl} : ∀ {fs : List Fl}, f ∈ delF fs nm → f ∈ fs
  | [], h => h
  | g :: r, h => by
    rw [delF] at h
    split at h
    · exact .tail _ h
    · rcases List.mem_cons.1 h with rfl | h
      · exact .head _
      · exact .tail _ (mem_del h)
theorem names_del {nm : ByteArray} : ∀ {fs : List Fl}, (fs.map (·.name)).Nodup → (delF fs nm).map (·.name) = (fs.map (·.name)).filter (fun k => decide (k ≠ nm))
  | [], _ => rfl
  | g :: r, h => by
    rw [List.map_cons, List.nodup_cons] at h
    rw [delF, List.map_cons, List.filter_cons]
    by_cases he : g.name = nm
    · rw [if_pos he, if_neg (by simp [he])]
      symm
      rw [List.filter_eq_self]
      intro k hk
      simp only [decide_eq_true_eq, ne_eq]
      rintro rfl
      exact h.1 (he ▸ hk)
    · rw [if_neg he, if_pos (by simp [he]), List.map_cons, names_del h.2]
theorem findF_del_same {nm : ByteArray} {fs : List Fl} (h : (fs.map (·.name)).Nodup) : findF (delF fs nm) nm = none := by
  cases hf : findF (delF fs nm) nm with
  | none => rfl
  | some f =>
    have h1 := findF_mem hf
    have h2 := find_name hf
    have h3 : f.name ∈ (delF fs nm).map (·.name) := List.mem_map.2 ⟨f, h1, rfl⟩
    rw [names_del h, List.mem_filter] at h3
    simp [h2] at h3
theorem nodup_del {nm : ByteArray} {fs : List Fl} (h : (fs.map (·.name)).Nodup) : ((delF fs nm).map (·.name)).Nodup := by
  rw [names_del h]; exact h.filter _
theorem usedF_nonneg : ∀ l : List Fl, 0 ≤ usedF l
  | [] => by simp [usedF]
  | f :: r => by have := usedF_nonneg r; simp only [usedF, costF]; omega

theorem removeD_ok {D : Dk} (ok : DkOk D) (nm : ByteArray) : DkOk (removeD D nm) := by
  unfold removeD
  split
  · split
    · exact ok
    · rename_i f hf
      split
      · rename_i h0
        obtain ⟨h1, h2, h3⟩ := spendE_zero h0
        rw [h3]
        have l0 := ok.l0; have l1 := ok.l1; have u0 := ok.u0; have us := ok.us; have u1 := ok.u1
        have hd := usedF_del hf
        have hp := usedF_nonneg (delF D.files nm)
        have hc : 0 ≤ costF f := by unfold costF; omega
        exact ⟨ok.n0, ok.n1, by simp only; omega, by simp only; omega, by simp only; omega, by simp only; omega, by simp only; omega, fun g hg => ok.sf g (mem_del hg), fun g hg => ok.nm g (mem_del hg), nodup_del ok.nd⟩
      · rename_i h0
        exact spendD_not_ok ok h0
  · exact ok

end Go.Proofs.YtgdamcimpgapgaaGreatDoor
