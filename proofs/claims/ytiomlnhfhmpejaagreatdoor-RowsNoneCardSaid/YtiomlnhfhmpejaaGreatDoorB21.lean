/- disk: made, right, cost, named, spend. -/
import Derived.Test.YtiomlnhfhmpejaaGreatDoorB09
import Derived.Deep.QuietTactic
import Derived.BigQuiet
namespace Go.Proofs.YtiomlnhfhmpejaaGreatDoor
open Go.RowKit

set_option maxRecDepth 100000 in
set_option maxHeartbeats 400000 in
theorem made_yes (d m : Nat) (w : World) (h : w.cell? ⟨d, 2, none⟩ = some (.map (some m))) : Calls Tryz.prog 133 #[.pointer (some ⟨d, 0, none⟩)] w fun e w' => e = .returned (.bool true) ∧ w = w' := by
  have hq := fun W => run_neq_map_nil (P := Tryz.prog) W 87 9 240 (some m) Tryz.underlying87
  go_enter Tryz.func133, Tryz.ntmps133
  go_wp2
  go_ret
  exact ⟨rfl, rfl⟩

set_option maxRecDepth 100000 in
set_option maxHeartbeats 400000 in
theorem made_no (w : World) : Calls Tryz.prog 133 #[.pointer none] w fun e w' => e = .returned (.bool false) ∧ w = w' := by
  go_enter Tryz.func133, Tryz.ntmps133
  go_wp2
  go_ret
  exact ⟨rfl, rfl⟩

set_option maxRecDepth 100000 in
set_option maxHeartbeats 400000 in
theorem cost_any (s : ByteArray) (n : Nat) (w : World) (hs : s.size ≤ 9000000000) (hn : n ≤ 140737488355328) : Calls Tryz.prog 197 #[.string s, .int .i64 n] w fun e w' => e = .returned (.int .i64 (16 + s.size + n)) ∧ w = w' := by
  go_enter Tryz.func197, Tryz.ntmps197
  go_wp2
  go_ret
  exact ⟨rfl, rfl⟩

set_option maxRecDepth 100000 in
set_option maxHeartbeats 400000 in
theorem named_any (s : ByteArray) (w : World) (hs : s.size ≤ 9223372036854775807) : Calls Tryz.prog 143 #[.string s] w fun e w' => e = .returned (.bool (named s)) ∧ w = w' := by
  obtain ⟨b, hb⟩ : ∃ b, named s = b := ⟨_, rfl⟩
  have HB := Lib.hid hb
  rw [hb]
  unfold named at hb
  have hc := Lib.hid (Tryz.strings_IndexByte s 0)
  obtain ⟨i, hi⟩ : ∃ i, Lib.indexByte s.data.toList 0 = i := ⟨_, rfl⟩
  have HI := Lib.hid hi
  rw [hi] at hb
  by_cases h1 : 1 ≤ s.size
  · by_cases h2 : s.size ≤ 100
    · have hbb : decide (i < 0) = b := by simpa [h1, h2] using hb
      clear hb hi
      go_enter Tryz.func143, Tryz.ntmps143
      go_wp2_with (go_at_call 198; refine (hc.out _).mono ?_; rintro e w' ⟨rfl, rfl⟩; rw [show Lib.indexByte s.data.toList (Int.toNat 0).toUInt8 = i from HI.out])
      go_ret
      exact ⟨rfl, rfl⟩
    · have hbb : b = false := by simpa [h1, h2] using hb.symm
      subst hbb
      have hd : decide ((s.size : Int) ≤ 100) = false := by simp; omega
      clear hb hi
      go_enter Tryz.func143, Tryz.ntmps143
      go_wp2_with fail
      go_ret
      exact ⟨rfl, rfl⟩
  · have hbb : b = false := by simpa [h1] using hb.symm
    subst hbb
    have hd : decide (1 ≤ (s.size : Int)) = false := by simp; omega
    clear hb hi
    go_enter Tryz.func143, Tryz.ntmps143
    go_wp2_with fail
    go_ret
    exact ⟨rfl, rfl⟩

end Go.Proofs.YtiomlnhfhmpejaaGreatDoor

/- disk: the counter, spend. -/
namespace Go.Proofs.YtiomlnhfhmpejaaGreatDoor
open Go.RowKit

set_option maxRecDepth 100000 in
set_option maxHeartbeats 400000 in
theorem add_any (d i : Nat) (x : Int) (w : World) (hc : w.cell? ⟨d, i, none⟩ = some (.int .i64 x)) (hz : w.frozen? ⟨d, i, none⟩ = false) :
    Calls Tryz.prog 245 #[.pointer (some ⟨d, i, none⟩), .int .i64 1] w fun e w' => e = .returned (.int .i64 (wrap64 (x + 1))) ∧ w.setCell ⟨d, i, none⟩ (.int .i64 (wrap64 (x + 1))) = w' := by
  have hadd := run_call_add (P := Tryz.prog) Tryz.func273 (by kernel_rfl) (by kernel_rfl) (by kernel_rfl) .i64 (by kernel_rfl) (y := 1) (s := wrap64 (x + 1)) hc hz (by simp [go_sem, wrap64, IntKind.wrap_i64])
  go_enter Tryz.func245, Tryz.ntmps245
  go_wp2
  go_ret
  exact ⟨rfl, rfl⟩

/-- what spend does. -/
def spendE (D : Dk) (more : Int) : Int := if D.n - D.used < more then 4 else if D.left = 0 then 5 else 0
def spendD (D : Dk) (more : Int) : Dk :=
  if D.n - D.used < more then D else if D.left = 0 then { D with off := true, left := -1 } else { D with left := max (D.left - 1) (-1), done := wrap64 (D.done + 1), used := D.used + more }

theorem spendD_files (D : Dk) (more : Int) : (spendD D more).files = D.files := by unfold spendD; split <;> (try split) <;> rfl

/-- the numbers of a disk are in range. -/
structure DkOk (D : Dk) : Prop where
  n0 : 0 ≤ D.n
  n1 : D.n ≤ 1099511627776
  u0 : 0 ≤ D.used
  u1 : D.used ≤ D.n
  l0 : -1 ≤ D.left
  l1 : D.left ≤ 9223372036854775807
  us : usedF D.files = D.used
  sf : ∀ f ∈ D.files, f.safe ≤ f.bytes.length
  nm : ∀ f ∈ D.files, named f.name = true
  nd : (D.files.map (·.name)).Nodup

set_option maxRecDepth 100000 in
set_option maxHeartbeats 800000 in
theorem spend_any (G : Nat → Prop) (d m : Nat) (kvs : List (ByteArray × Value)) (D : Dk) (more : Int) (w : World) (h : DkAt w G d m kvs D) (ok : DkOk D) (h1 : -D.used ≤ more) :
    Calls Tryz.prog 196 #[.pointer (some ⟨d, 0, none⟩), .int .i64 more] w fun e w' => e = .returned (.int .i64 (spendE D more)) ∧ DkAt w' G d m kvs (spendD D more) ∧ Mod (fun k => k = d) w w' := by
  obtain ⟨n0, n1, u0, u1, l0, l1, _, _, _, _⟩ := ok
  have HH := Lib.hid h
  have c0 : w.cell? ⟨d, 0, none⟩ = some (.int .i64 D.n) := h.blk.cell 0
  have c1 : w.cell? ⟨d, 1, none⟩ = some (.int .i64 D.used) := h.blk.cell 1
  have c3 : w.cell? ⟨d, 3, none⟩ = some (.int .i64 D.done) := h.blk.cell 3
  have c4 : w.cell? ⟨d, 4, none⟩ = some (.int .i64 D.left) := h.blk.cell 4
  have c5 : w.cell? ⟨d, 5, none⟩ = some (.bool D.off) := h.blk.cell 5
  have f1 := h.blk.frozen 1
  have f3 := h.blk.frozen 3
  have f4 := h.blk.frozen 4
  have f5 := h.blk.frozen 5
  clear h
  have hsub : IntKind.i64.wrap (D.n - D.used) = D.n - D.used := IntWalk.i64_in _ (by omega)
  by_cases hs : D.n - D.used < more
  · have HE : Hid (spendE D more = 4 ∧ spendD D more = D) := ⟨by simp [spendE, hs], by simp [spendD, hs]⟩
    go_enter Tryz.func196, Tryz.ntmps196
    go_wp2_with fail
    go_quiet (fail)
    clear hsub
    go_wp2_with fail
    go_ret
    exact ⟨by rw [HE.out.1]; rfl, by rw [HE.out.2]; exact HH.out.mod0 ((Mod.refl _ _).drewN _), (Mod.refl _ _).drewN _⟩
  · by_cases hl : D.left = 0
    · have HE : Hid (spendE D more = 5 ∧ spendD D more = { D with off := true, left := -1 }) := ⟨by simp [spendE, hs, hl], by simp [spendD, hs, hl]⟩
      have hlb : (D.left == 0) = true := by simp [hl]
      clear hl
      go_enter Tryz.func196, Tryz.ntmps196
      go_wp2_with fail
      go_quiet (fail)
      clear hsub
      go_wp2_with fail
      go_ret
      refine ⟨by rw [HE.out.1]; rfl, ?_, (((Mod.refl _ _).drewN _).set1 _ _).set1 _ _⟩
      rw [HE.out.2]
      exact ((HH.out.mod0 ((Mod.refl _ _).drewN _)).setOff true).setLeft (-1)
    · have HE : Hid (spendE D more = 0 ∧ spendD D more = { D with left := max (D.left - 1) (-1), done := wrap64 (D.done + 1), used := D.used + more }) := ⟨by simp [spendE, hs, hl], by simp [spendD, hs, hl]⟩
      have hlb : (D.left == 0) = false := by simp [hl]
      clear hsub
      have hsub : IntKind.i64.wrap (D.n - D.used) = D.n - D.used := IntWalk.i64_in _ (by omega)
      have hh : 0 < D.left ∨ D.left ≤ -1 := by omega
      clear hl
      rcases hh with hl | hl
      · have HM : Hid (max (D.left - 1) (-1) = D.left - 1) := by show max (D.left - 1) (-1) = D.left - 1; omega
        go_enter Tryz.func196, Tryz.ntmps196
        go_wp2_with fail
        go_quiet (fail)
        clear hsub
        go_wp2_with (go_at_call 245; refine (add_any d 3 D.done _ (by go_simp) (by go_simp)).mono ?_; rintro e w' ⟨rfl, rfl⟩)
        go_ret
        refine ⟨by rw [HE.out.1]; rfl, ?_, ((((Mod.refl _ _).drewN _).set1 _ _).set1 _ _).set1 _ _⟩
        rw [HE.out.2, HM.out]
        exact (((HH.out.mod0 ((Mod.refl _ _).drewN _)).setLeft (D.left - 1)).setDone (wrap64 (D.done + 1))).setUsed (D.used + more)
      · have HM : Hid (max (D.left - 1) (-1) = -1) := by show max (D.left - 1) (-1) = -1; omega
        go_enter Tryz.func196, Tryz.ntmps196
        go_wp2_with fail
        go_quiet (fail)
        clear hsub
        go_wp2_with (go_at_call 245; refine (add_any d 3 D.done _ (by go_simp) (by go_simp)).mono ?_; rintro e w' ⟨rfl, rfl⟩)
        go_ret
        refine ⟨by rw [HE.out.1]; rfl, ?_, ((((Mod.refl _ _).drewN _).set1 _ _).set1 _ _).set1 _ _⟩
        rw [HE.out.2, HM.out]
        exact (((HH.out.mod0 ((Mod.refl _ _).drewN _)).setLeft (-1)).setDone (wrap64 (D.done + 1))).setUsed (D.used + more)

end Go.Proofs.YtiomlnhfhmpejaaGreatDoor
