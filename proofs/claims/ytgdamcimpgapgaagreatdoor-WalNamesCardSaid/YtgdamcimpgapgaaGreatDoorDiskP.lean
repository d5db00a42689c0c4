/- The plain disk: what its calls keep. No memory. -/
import Derived.Test.YtgdamcimpgapgaaGreatDoorDisk5
namespace Go.Proofs.YtgdamcimpgapgaaGreatDoor
open Go.RowKit

theorem findF_mem {k : ByteArray} {f : Fl} : ∀ {fs : List Fl}, findF fs k = some f → f ∈ fs
  | [], h => by cases h
  | g :: r, h => by
    rw [findF] at h
    split at h
    · cases h; exact .head _
    · exact .tail _ (findF_mem h)
theorem findF_none {k : ByteArray} : ∀ {fs : List Fl}, findF fs k = none → ∀ f ∈ fs, f.name ≠ k
  | [], _ => by simp
  | g :: r, h => by
    rw [findF] at h
    split at h
    · cases h
    · rename_i hn
      intro f hf
      rcases List.mem_cons.1 hf with rfl | hf
      · exact hn
      · exact findF_none h f hf
theorem findF_put_same (g : Fl) : ∀ (fs : List Fl), findF (putF fs g) g.name = some g
  | [] => by simp [putF, findF]
  | f :: r => by
    rw [putF]
    split
    · simp [findF]
    · rename_i hn
      rw [findF, if_neg hn]
      exact findF_put_same g r
theorem findF_put_other (g : Fl) {k : ByteArray} (hk : g.name ≠ k) : ∀ (fs : List Fl), findF (putF fs g) k = findF fs k
  | [] => by simp [putF, findF, hk]
  | f :: r => by
    rw [putF]
    split
    · rename_i he
      rw [findF, if_neg hk, findF, if_neg (by rw [he]; exact hk)]
    · rw [findF, findF, findF_put_other g hk r]
theorem usedF_put_new (g : Fl) : ∀ {fs : List Fl}, findF fs g.name = none → usedF (putF fs g) = usedF fs + costF g
  | [], _ => by simp [putF, usedF]
  | f :: r, h => by
    rw [findF] at h
    split at h
    · cases h
    · rename_i hn
      rw [putF, if_neg hn, usedF, usedF, usedF_put_new g h]; omega
theorem usedF_put_has (g : Fl) {f : Fl} : ∀ {fs : List Fl}, findF fs g.name = some f → usedF (putF fs g) = usedF fs - costF f + costF g
  | [], h => by cases h
  | e :: r, h => by
    rw [findF] at h
    split at h
    · rename_i he
      cases h
      rw [putF, if_pos he, usedF, usedF]; omega
    · rename_i hn
      rw [putF, if_neg hn, usedF, usedF, usedF_put_has g h]; omega
theorem mem_put {g f : Fl} : ∀ {fs : List Fl}, f ∈ putF fs g → f = g ∨ f ∈ fs
  | [], h => by simp only [putF, List.mem_singleton] at h; exact .inl h
  | e :: r, h => by
    rw [putF] at h
    split at h
    · rcases List.mem_cons.1 h with rfl | h
      · exact .inl rfl
      · exact .inr (.tail _ h)
    · rcases List.mem_cons.1 h with rfl | h
      · exact .inr (.head _)
      · exact (mem_put h).imp id (.tail _)
theorem names_put_has (g : Fl) {f : Fl} : ∀ {fs : List Fl}, findF fs g.name = some f → (putF fs g).map (·.name) = fs.map (·.name)
  | [], h => by cases h
  | e :: r, h => by
    rw [findF] at h
    rw [putF]
    split
    · rename_i he
      simp [he]
    · rename_i hn
      rw [if_neg hn] at h
      simp [names_put_has g h]
theorem names_put_new (g : Fl) : ∀ {fs : List Fl}, findF fs g.name = none → (putF fs g).map (·.name) = fs.map (·.name) ++ [g.name]
  | [], _ => by simp [putF]
  | e :: r, h => by
    rw [findF] at h
    rw [putF]
    split
    · rename_i he
      rw [if_pos he] at h
      cases h
    · rename_i hn
      rw [if_neg hn] at h
      simp [names_put_new g h]
theorem nodup_put (g : Fl) {fs : List Fl} (h : (fs.map (·.name)).Nodup) : ((putF fs g).map (·.name)).Nodup := by
  cases hf : findF fs g.name with
  | none =>
    rw [names_put_new g hf]
    refine List.nodup_append.2 ⟨h, by simp, ?_⟩
    intro a ha b hb e
    simp only [List.mem_singleton] at hb
    obtain ⟨f, hf', rfl⟩ := List.mem_map.1 ha
    exact findF_none hf f hf' (by rw [e, hb])
  | some f => rw [names_put_has g hf]; exact h

theorem spendE_zero {D : Dk} {more : Int} (h : spendE D more = 0) : more ≤ D.n - D.used ∧ D.left ≠ 0 ∧ spendD D more = { D with left := max (D.left - 1) (-1), done := wrap64 (D.done + 1), used := D.used + more } := by
  unfold spendE at h
  split at h
  · omega
  · rename_i h1
    split at h
    · omega
    · rename_i h2
      exact ⟨by omega, h2, by unfold spendD; rw [if_neg h1, if_neg h2]⟩
theorem spendD_not {D : Dk} {more : Int} (h : spendE D more ≠ 0) : spendD D more = D ∨ spendD D more = { D with off := true, left := -1 } := by
  unfold spendE at h
  unfold spendD
  split at h
  · rename_i h1; exact .inl (by rw [if_pos h1])
  · rename_i h1
    split at h
    · rename_i h2; exact .inr (by rw [if_neg h1, if_pos h2])
    · omega
theorem spendD_not_ok {D : Dk} {more : Int} (ok : DkOk D) (h : spendE D more ≠ 0) : DkOk (spendD D more) := by
  rcases spendD_not h with e | e
  · rw [e]; exact ok
  · rw [e]; exact ⟨ok.n0, ok.n1, ok.u0, ok.u1, by simp, by simp, ok.us, ok.sf, ok.nm, ok.nd⟩

theorem appendD_ok {D : Dk} (ok : DkOk D) (nm : ByteArray) (b : List UInt8) : DkOk (appendD D nm b) := by
  unfold appendD
  split
  · rename_i h
    split
    · rename_i h0
      obtain ⟨h1, h2, h3⟩ := spendE_zero h0
      rw [h3]
      have l0 := ok.l0; have l1 := ok.l1; have u0 := ok.u0; have us := ok.us
      have hname : (fileA D nm b).name = nm := by unfold fileA; split <;> rfl
      have hused : usedF (putF D.files (fileA D nm b)) = D.used + moreA D nm b.length := by
        cases hf : findF D.files nm with
        | none =>
          rw [usedF_put_new _ (by rw [hname]; exact hf), us]
          unfold moreA fileA
          simp only [hf, costF]
          simp
        | some f =>
          rw [usedF_put_has _ (by rw [hname]; exact hf), us]
          have hfn := find_name hf
          unfold moreA fileA
          simp only [hf, costF, hfn]
          simp; omega
      have hm : 0 ≤ moreA D nm b.length := by unfold moreA; split <;> omega
      refine ⟨ok.n0, ok.n1, by simp only; omega, by simp only; omega, by simp only; omega, by simp only; omega, hused, ?_, ?_, nodup_put _ ok.nd⟩
      · intro f hf
        rcases mem_put hf with rfl | hf
        · unfold fileA
          split
          · rename_i f0 hf0
            have := ok.sf _ (findF_mem hf0)
            simp; omega
          · simp
        · exact ok.sf f hf
      · intro f hf
        rcases mem_put hf with rfl | hf
        · rw [hname]; exact h.1
        · exact ok.nm f hf
    · rename_i h0
      exact spendD_not_ok ok h0
  · exact ok

theorem syncD_ok {D : Dk} (ok : DkOk D) (nm : ByteArray) : DkOk (syncD D nm) := by
  unfold syncD
  split
  · rename_i h
    split
    · exact ok
    · rename_i f hf
      split
      · rename_i h0
        obtain ⟨h1, h2, h3⟩ := spendE_zero h0
        rw [h3]
        have l0 := ok.l0; have l1 := ok.l1; have u0 := ok.u0; have us := ok.us; have u1 := ok.u1
        have hfn := find_name hf
        refine ⟨ok.n0, ok.n1, by simp only; omega, by simp only; omega, by simp only; omega, by simp only; omega, ?_, ?_, ?_, nodup_put _ ok.nd⟩
        · rw [usedF_put_has _ hf]
          simp only [costF, hfn]
          omega
        · intro g hg
          rcases mem_put hg with rfl | hg
          · simp
          · exact ok.sf g hg
        · intro g hg
          rcases mem_put hg with rfl | hg
          · exact h.1
          · exact ok.nm g hg
      · rename_i h0
        exact spendD_not_ok ok h0
  · exact ok

end Go.Proofs.YtgdamcimpgapgaaGreatDoor
