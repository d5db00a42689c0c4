/- disk: Cut, Crash. -/
import Derived.Test.YtgdamcimpgapgaaDoorNames
import Derived.Test.YtgdamcimpgapgaaDoorDiskP
import Derived.Test.YtgdamcimpgapgaaDoorDisk5
import Derived.Laws.BitsLemmas
namespace Go.Proofs.YtgdamcimpgapgaaDoor
open Go.RowKit

def cutE (ops : Int) : Int := if ops < 0 then 1 else 0
def cutD (D : Dk) (ops : Int) : Dk := if ops < 0 ∨ D.off = true then D else { D with left := ops }

set_option maxRecDepth 100000 in
set_option maxHeartbeats 800000 in
theorem cut_any (F : Nat → Prop) (d : Nat) (D : Dk) (ops : Int) (w : World) (h : DiskIs w F d D) :
    Calls Tryd.prog 16 #[.pointer (some ⟨d, 0, none⟩), .int .i64 ops] w (DkPost F d (cutD D ops) (.int .i64 (cutE ops)) w) := by
  have HH := Lib.hid h
  obtain ⟨G, m, kvs, hA, hFd, hFm, hGF, hFp, hFl⟩ := h
  have c2 : w.cell? ⟨d, 2, none⟩ = some (.map (some m)) := hA.blk.cell 2
  have c4 : w.cell? ⟨d, 4, none⟩ = some (.int .i64 D.left) := hA.blk.cell 4
  have c5 : w.cell? ⟨d, 5, none⟩ = some (.bool D.off) := hA.blk.cell 5
  have f4 := hA.blk.frozen 4
  have HA := Lib.hid hA
  clear hA
  by_cases ho : ops < 0
  · have H1 : Hid (cutD D ops = D ∧ cutE ops = 1) := ⟨by unfold cutD; rw [if_pos (.inl ho)], by unfold cutE; rw [if_pos ho]⟩
    rw [H1.out.1, H1.out.2]
    go_enter Tryd.func16, Tryd.ntmps16
    go_wp2_with (go_at_call 34; refine (made_yes d m _ c2).mono ?_; rintro e w' ⟨rfl, rfl⟩)
    go_ret
    exact ⟨rfl, F, HH.out, Mod.refl _ _, fun k hk => .inl hk⟩
  · have H2 : Hid (cutE ops = 0) := by show cutE ops = 0; unfold cutE; rw [if_neg ho]
    rw [H2.out]
    have ho' : 0 ≤ ops := by omega
    clear ho
    cases hoff : D.off with
    | true =>
      have H1 : Hid (cutD D ops = D) := by show cutD D ops = D; unfold cutD; rw [if_pos (.inr hoff)]
      rw [H1.out]
      rw [hoff] at c5
      clear hoff
      go_enter Tryd.func16, Tryd.ntmps16
      go_wp2_with (go_at_call 34; refine (made_yes d m _ c2).mono ?_; rintro e w' ⟨rfl, rfl⟩)
      go_ret
      exact ⟨rfl, F, HH.out, Mod.refl _ _, fun k hk => .inl hk⟩
    | false =>
      have H1 : Hid (cutD D ops = { D with left := ops }) := by show cutD D ops = _; unfold cutD; rw [if_neg (by rw [hoff]; simp; omega)]
      rw [H1.out]
      rw [hoff] at c5
      clear hoff
      go_enter Tryd.func16, Tryd.ntmps16
      go_wp2_with (go_at_call 34; refine (made_yes d m _ c2).mono ?_; rintro e w' ⟨rfl, rfl⟩)
      go_ret
      exact ⟨rfl, dk_fin (HA.out.setLeft ops) hFd hFm hFp hFl (fun k hk => .inl (hGF k hk)) ((Mod.refl F w).setCell (p := ⟨d, 4, none⟩) (.inl hFd) _) HA.out.lay.lt⟩

/-- how much of a file a crash leaves. -/
def keepC (f : Fl) (p : Option Int) : Nat := match p with
  | none => f.safe
  | some v => f.safe + (v % 18446744073709551616).toNat % (f.bytes.length - f.safe + 1)
def crash1 (D : Dk) (nm : ByteArray) (p : Option Int) : Dk := match findF D.files nm with
  | none => D
  | some f => { D with used := D.used - ((f.bytes.length : Int) - keepC f p), files := putF D.files ⟨nm, keepC f p, f.bytes.take (keepC f p)⟩ }
def crashL (picks : List Int) : Nat → List ByteArray → Dk → Dk
  | _, [], D => D
  | k, nm :: r, D => crashL picks (k + 1) r (crash1 D nm picks[k]?)
def crashD (D : Dk) (picks : List Int) (L : List ByteArray) : Dk := { crashL picks 0 L D with off := false, left := -1 }

theorem crashL_snoc (picks : List Int) (x : ByteArray) : ∀ (L : List ByteArray) (k : Nat) (D : Dk), crashL picks k (L ++ [x]) D = crash1 (crashL picks k L D) x picks[k + L.length]?
  | [], k, D => rfl
  | a :: L, k, D => by
    rw [List.cons_append, crashL, crashL_snoc picks x L (k + 1), crashL]
    simp only [List.length_cons]
    rw [show k + 1 + L.length = k + (L.length + 1) by omega]
theorem keepC_le {f : Fl} (h : f.safe ≤ f.bytes.length) (p : Option Int) : f.safe ≤ keepC f p ∧ keepC f p ≤ f.bytes.length := by
  unfold keepC
  split
  · omega
  · rename_i v
    have := Nat.mod_lt (v % 18446744073709551616).toNat (show 0 < f.bytes.length - f.safe + 1 by omega)
    omega
theorem crash1_ok {D : Dk} (ok : DkOk D) (nm : ByteArray) (p : Option Int) : DkOk (crash1 D nm p) := by
  unfold crash1
  split
  · exact ok
  · rename_i f hf
    have hm := findF_mem hf
    have hs := ok.sf f hm
    have hfn := find_name hf
    obtain ⟨h1, h2⟩ := keepC_le hs p
    have hc := find_cost hf
    have hu := ok.us
    have u1 := ok.u1
    have hused : usedF (putF D.files ⟨nm, keepC f p, f.bytes.take (keepC f p)⟩) = D.used - ((f.bytes.length : Int) - keepC f p) := by
      rw [usedF_put_has ⟨nm, keepC f p, f.bytes.take (keepC f p)⟩ hf, hu]
      simp only [costF, hfn, List.length_take]
      omega
    have hpos : ∀ l : List Fl, 0 ≤ usedF l := fun l => by
      induction l with
      | nil => simp [usedF]
      | cons a l ih => simp only [usedF, costF]; omega
    refine ⟨ok.n0, ok.n1, by simp only; rw [← hused]; exact hpos _, by simp only; omega, ok.l0, ok.l1, hused, ?_, ?_, nodup_put _ ok.nd⟩
    · intro g hg
      rcases mem_put hg with rfl | hg
      · simp; omega
      · exact ok.sf g hg
    · intro g hg
      rcases mem_put hg with rfl | hg
      · have := ok.nm f hm; rwa [hfn] at this
      · exact ok.nm g hg
theorem crashL_ok (picks : List Int) : ∀ (L : List ByteArray) (k : Nat) {D : Dk}, DkOk D → DkOk (crashL picks k L D)
  | [], _, _, ok => ok
  | _ :: L, k, _, ok => crashL_ok picks L (k + 1) (crash1_ok ok _ _)
theorem crashD_ok {D : Dk} (ok : DkOk D) (picks : List Int) (L : List ByteArray) : DkOk (crashD D picks L) := by
  have h := crashL_ok picks L 0 ok
  exact ⟨h.n0, h.n1, h.u0, h.u1, by simp [crashD], by simp [crashD], h.us, h.sf, h.nm, h.nd⟩
theorem crash1_names (D : Dk) (nm : ByteArray) (p : Option Int) : (crash1 D nm p).files.map (·.name) = D.files.map (·.name) := by
  unfold crash1
  split
  · rfl
  · rename_i f hf
    exact names_put_has ⟨nm, keepC f p, f.bytes.take (keepC f p)⟩ hf
theorem crashL_names (picks : List Int) : ∀ (L : List ByteArray) (k : Nat) (D : Dk), (crashL picks k L D).files.map (·.name) = D.files.map (·.name)
  | [], _, _ => rfl
  | _ :: L, k, _ => by rw [crashL, crashL_names picks L (k + 1), crash1_names]
theorem findF_of_name {nm : ByteArray} : ∀ {fs : List Fl}, nm ∈ fs.map (·.name) → ∃ f, findF fs nm = some f
  | [], h => by cases h
  | g :: r, h => by
    rw [findF]
    split
    · exact ⟨g, rfl⟩
    · rename_i hn
      rw [List.map_cons] at h
      rcases List.mem_cons.1 h with h | h
      · exact absurd h.symm hn
      · exact findF_of_name h
theorem names_mem {D : Dk} {L : List ByteArray} (h : NamesAre D L) : ∀ nm ∈ L, nm ∈ D.files.map (·.name) := by
  obtain ⟨ss, hp, rfl⟩ := h
  intro nm hn
  obtain ⟨l, hl, rfl⟩ := List.mem_map.1 hn
  have h1 := (List.mem_mergeSort.1 hl)
  have h2 := hp.mem_iff.1 h1
  obtain ⟨f, hf, he⟩ := List.mem_map.1 h2
  exact List.mem_map.2 ⟨f, hf, by rw [← he]⟩

end Go.Proofs.YtgdamcimpgapgaaDoor
