/- Which files a disk has behind an Add, a Drop. Plain. -/
import Derived.Test.YtgdamcimpgapgaaGreatDoorPlain2
import Derived.Test.YtgdamcimpgapgaaGreatDoorRemove2
import Derived.Test.YtgdamcimpgapgaaGreatDoorSegs
namespace Go.Proofs.YtgdamcimpgapgaaGreatDoor
open Go.RowKit

theorem append_names (D : Dk) (nm : ByteArray) (b : List UInt8) : ∀ f ∈ (appendD D nm b).files, f.name = nm ∨ f.name ∈ D.files.map (·.name) := by
  intro f hf
  unfold appendD at hf
  split at hf
  · split at hf
    · rcases mem_put hf with rfl | hf
      · exact .inl (fileA_name D nm b)
      · exact .inr (List.mem_map.2 ⟨f, hf, rfl⟩)
    · rw [spendD_files] at hf
      exact .inr (List.mem_map.2 ⟨f, hf, rfl⟩)
  · exact .inr (List.mem_map.2 ⟨f, hf, rfl⟩)
theorem sync_names (D : Dk) (nm : ByteArray) : ∀ f ∈ (syncD D nm).files, f.name = nm ∨ f.name ∈ D.files.map (·.name) := by
  intro f hf
  unfold syncD at hf
  split at hf
  · split at hf
    · exact .inr (List.mem_map.2 ⟨f, hf, rfl⟩)
    · split at hf
      · rcases mem_put hf with rfl | hf
        · exact .inl rfl
        · exact .inr (List.mem_map.2 ⟨f, hf, rfl⟩)
      · rw [spendD_files] at hf
        exact .inr (List.mem_map.2 ⟨f, hf, rfl⟩)
  · exact .inr (List.mem_map.2 ⟨f, hf, rfl⟩)
theorem all_names (nm : ByteArray) (l : List (List UInt8)) : ∀ (s : Dk × Int), ∀ f ∈ (l.foldl (appStep nm) s).1.files, f.name = nm ∨ f.name ∈ s.1.files.map (·.name) := by
  induction l with
  | nil => intro s f hf; exact .inr (List.mem_map.2 ⟨f, hf, rfl⟩)
  | cons b l ih =>
    intro s f hf
    rw [List.foldl_cons] at hf
    rcases ih _ f hf with h | h
    · exact .inl h
    · obtain ⟨g, hg, he⟩ := List.mem_map.1 h
      rw [← he]
      unfold appStep at hg
      split at hg
      · exact append_names _ _ _ g hg
      · exact .inr (List.mem_map.2 ⟨g, hg, rfl⟩)
theorem add_names (D : Dk) (n : Int) (b : List UInt8) : ∀ f ∈ (addB D n b).1.files, f.name = nameW n ∨ f.name ∈ D.files.map (·.name) := by
  intro f hf
  unfold addB at hf
  split at hf
  · split at hf
    · exact .inr (List.mem_map.2 ⟨f, hf, rfl⟩)
    · split at hf
      · exact .inr (List.mem_map.2 ⟨f, hf, rfl⟩)
      · simp only at hf
        split at hf
        · rcases sync_names _ _ f hf with h | h
          · exact .inl h
          · obtain ⟨g, hg, he⟩ := List.mem_map.1 h
            rw [← he]
            exact all_names _ _ _ g hg
        · exact all_names _ _ _ f hf
  · exact .inr (List.mem_map.2 ⟨f, hf, rfl⟩)

/-- A file dropped on a disk that is never cut: only it is gone. -/
theorem drop_calm {D : Dk} (c : Calm D) (ok : DkOk D) {n : Int} (h0 : 0 ≤ n) (h1 : n ≤ 1099511627776) :
    Calm (dropD D n) ∧ (∀ k, k ≠ nameW n → findF (dropD D n).files k = findF D.files k) ∧ ∀ f ∈ (dropD D n).files, f ∈ D.files ∧ f.name ≠ nameW n := by
  have hn := nameW_named h0 h1
  unfold dropD
  rw [if_pos ⟨h0, h1⟩]
  unfold removeD
  rw [if_pos ⟨hn, c.off⟩]
  cases hf : findF D.files (nameW n) with
  | none => exact ⟨c, fun _ _ => rfl, fun f hff => ⟨hff, findF_none hf f hff⟩⟩
  | some f =>
    have hc : 0 ≤ costF f := by unfold costF; omega
    obtain ⟨s0, s1⟩ := spend_calm c (more := -costF f) (by have := ok.u1; omega)
    simp only
    rw [if_pos s0, s1]
    refine ⟨⟨c.off, rfl⟩, fun k hk => findF_del_other (fun e => hk e.symm) _, fun g hg => ⟨mem_del hg, fun e => ?_⟩⟩
    have h3 : g.name ∈ (delF D.files (nameW n)).map (·.name) := List.mem_map.2 ⟨g, hg, rfl⟩
    rw [names_del ok.nd, List.mem_filter] at h3
    simp [e] at h3

/-- one name left. -/
theorem names_single {D : Dk} (ok : DkOk D) {nm : ByteArray} (hall : ∀ f ∈ D.files, f.name = nm) {f : Fl} (hf : findF D.files nm = some f) {L : List ByteArray} (h : NamesAre D L) : L = [nm] := by
  have hm := findF_mem hf
  have hnames : D.files.map (·.name) = [nm] := by
    cases hfs : D.files with
    | nil => rw [hfs] at hm; cases hm
    | cons g r =>
      have hg := hall g (by rw [hfs]; exact .head _)
      cases r with
      | nil => simp [hg]
      | cons k r =>
        have hk := hall k (by rw [hfs]; exact .tail _ (.head _))
        have hnd := ok.nd
        rw [hfs] at hnd
        simp [hg, hk] at hnd
  obtain ⟨ss, hp, rfl⟩ := h
  have e : (D.files.map fun f => f.name.data.toList) = [nm.data.toList] := by
    have := congrArg (List.map fun s : ByteArray => s.data.toList) hnames
    simpa [List.map_map, Function.comp_def] using this
  rw [e] at hp
  rw [List.perm_singleton.1 hp]
  simp

end Go.Proofs.YtgdamcimpgapgaaGreatDoor
