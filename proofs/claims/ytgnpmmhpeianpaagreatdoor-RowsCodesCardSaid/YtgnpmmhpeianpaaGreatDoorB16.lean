/- disk: made, right, cost, named, spend. -/
import Derived.Test.YtgnpmmhpeianpaaGreatDoorB08
import Derived.Deep.QuietTactic
import Derived.BigQuiet
import Derived.Test.YtgnpmmhpeianpaaGreatDoorB06
import Derived.Deep.RegionHeld3
import Derived.Test.YtgnpmmhpeianpaaGreatDoorB03
namespace Go.Proofs.YtgnpmmhpeianpaaGreatDoor
open Go.RowKit

set_option maxRecDepth 100000 in
set_option maxHeartbeats 400000 in
theorem made_yes (d m : Nat) (w : World) (h : w.cell? ⟨d, 2, none⟩ = some (.map (some m))) : Calls Tryz.prog 168 #[.pointer (some ⟨d, 0, none⟩)] w fun e w' => e = .returned (.bool true) ∧ w = w' := by
  have hq := fun W => run_neq_map_nil (P := Tryz.prog) W 114 9 273 (some m) Tryz.underlying114
  go_enter Tryz.func168, Tryz.ntmps168
  go_wp2
  go_ret
  exact ⟨rfl, rfl⟩

set_option maxRecDepth 100000 in
set_option maxHeartbeats 400000 in
theorem made_no (w : World) : Calls Tryz.prog 168 #[.pointer none] w fun e w' => e = .returned (.bool false) ∧ w = w' := by
  go_enter Tryz.func168, Tryz.ntmps168
  go_wp2
  go_ret
  exact ⟨rfl, rfl⟩

set_option maxRecDepth 100000 in
set_option maxHeartbeats 400000 in
theorem cost_any (s : ByteArray) (n : Nat) (w : World) (hs : s.size ≤ 9000000000) (hn : n ≤ 140737488355328) : Calls Tryz.prog 226 #[.string s, .int .i64 n] w fun e w' => e = .returned (.int .i64 (16 + s.size + n)) ∧ w = w' := by
  go_enter Tryz.func226, Tryz.ntmps226
  go_wp2
  go_ret
  exact ⟨rfl, rfl⟩

set_option maxRecDepth 100000 in
set_option maxHeartbeats 400000 in
theorem named_any (s : ByteArray) (w : World) (hs : s.size ≤ 9223372036854775807) : Calls Tryz.prog 178 #[.string s] w fun e w' => e = .returned (.bool (named s)) ∧ w = w' := by
  obtain ⟨b, hb⟩ : ∃ b, named s = b := ⟨_, rfl⟩
  have HB := Lib.hid hb
  rw [hb]
  unfold named at hb
  have hc := Lib.hid (Tryz.strings_IndexByte s 0)
  obtain ⟨i, hi⟩ : ∃ i, Lib.indexByte s.data.toList 0 = i := ⟨_, rfl⟩
  have HI := Lib.hid hi
  rw [hi] at hb
  by_cases h1 : 1 ≤ s.size
  · by_cases h2 : s.size ≤ 100
    · have hbb : decide (i < 0) = b := by simpa [h1, h2] using hb
      clear hb hi
      go_enter Tryz.func178, Tryz.ntmps178
      go_wp2_with (go_at_call 227; refine (hc.out _).mono ?_; rintro e w' ⟨rfl, rfl⟩; rw [show Lib.indexByte s.data.toList (Int.toNat 0).toUInt8 = i from HI.out])
      go_ret
      exact ⟨rfl, rfl⟩
    · have hbb : b = false := by simpa [h1, h2] using hb.symm
      subst hbb
      have hd : decide ((s.size : Int) ≤ 100) = false := by simp; omega
      clear hb hi
      go_enter Tryz.func178, Tryz.ntmps178
      go_wp2_with fail
      go_ret
      exact ⟨rfl, rfl⟩
  · have hbb : b = false := by simpa [h1] using hb.symm
    subst hbb
    have hd : decide (1 ≤ (s.size : Int)) = false := by simp; omega
    clear hb hi
    go_enter Tryz.func178, Tryz.ntmps178
    go_wp2_with fail
    go_ret
    exact ⟨rfl, rfl⟩

end Go.Proofs.YtgnpmmhpeianpaaGreatDoor

/- disk: the counter, spend. -/
namespace Go.Proofs.YtgnpmmhpeianpaaGreatDoor
open Go.RowKit

set_option maxRecDepth 100000 in
set_option maxHeartbeats 400000 in
theorem add_any (d i : Nat) (x : Int) (w : World) (hc : w.cell? ⟨d, i, none⟩ = some (.int .i64 x)) (hz : w.frozen? ⟨d, i, none⟩ = false) :
    Calls Tryz.prog 270 #[.pointer (some ⟨d, i, none⟩), .int .i64 1] w fun e w' => e = .returned (.int .i64 (wrap64 (x + 1))) ∧ w.setCell ⟨d, i, none⟩ (.int .i64 (wrap64 (x + 1))) = w' := by
  have hadd := run_call_add (P := Tryz.prog) Tryz.func297 (by kernel_rfl) (by kernel_rfl) (by kernel_rfl) .i64 (by kernel_rfl) (y := 1) (s := wrap64 (x + 1)) hc hz (by simp [go_sem, wrap64, IntKind.wrap_i64])
  go_enter Tryz.func270, Tryz.ntmps270
  go_wp2
  go_ret
  exact ⟨rfl, rfl⟩

/-- what spend does. -/
def spendE (D : Dk) (more : Int) : Int := if D.n - D.used < more then 4 else if D.left = 0 then 5 else 0
def spendD (D : Dk) (more : Int) : Dk :=
  if D.n - D.used < more then D else if D.left = 0 then { D with off := true, left := -1 } else { D with left := max (D.left - 1) (-1), done := wrap64 (D.done + 1), used := D.used + more }

theorem spendD_files (D : Dk) (more : Int) : (spendD D more).files = D.files := by unfold spendD; split <;> (try split) <;> rfl

/-- the numbers of a disk are in range. -/
structure DkOk (D : Dk) : Prop where
  n0 : 0 ≤ D.n
  n1 : D.n ≤ 1099511627776
  u0 : 0 ≤ D.used
  u1 : D.used ≤ D.n
  l0 : -1 ≤ D.left
  l1 : D.left ≤ 9223372036854775807
  us : usedF D.files = D.used
  sf : ∀ f ∈ D.files, f.safe ≤ f.bytes.length
  nm : ∀ f ∈ D.files, named f.name = true
  nd : (D.files.map (·.name)).Nodup

set_option maxRecDepth 100000 in
set_option maxHeartbeats 800000 in
theorem spend_any (G : Nat → Prop) (d m : Nat) (kvs : List (ByteArray × Value)) (D : Dk) (more : Int) (w : World) (h : DkAt w G d m kvs D) (ok : DkOk D) (h1 : -D.used ≤ more) :
    Calls Tryz.prog 225 #[.pointer (some ⟨d, 0, none⟩), .int .i64 more] w fun e w' => e = .returned (.int .i64 (spendE D more)) ∧ DkAt w' G d m kvs (spendD D more) ∧ Mod (fun k => k = d) w w' := by
  obtain ⟨n0, n1, u0, u1, l0, l1, _, _, _, _⟩ := ok
  have HH := Lib.hid h
  have c0 : w.cell? ⟨d, 0, none⟩ = some (.int .i64 D.n) := h.blk.cell 0
  have c1 : w.cell? ⟨d, 1, none⟩ = some (.int .i64 D.used) := h.blk.cell 1
  have c3 : w.cell? ⟨d, 3, none⟩ = some (.int .i64 D.done) := h.blk.cell 3
  have c4 : w.cell? ⟨d, 4, none⟩ = some (.int .i64 D.left) := h.blk.cell 4
  have c5 : w.cell? ⟨d, 5, none⟩ = some (.bool D.off) := h.blk.cell 5
  have f1 := h.blk.frozen 1
  have f3 := h.blk.frozen 3
  have f4 := h.blk.frozen 4
  have f5 := h.blk.frozen 5
  clear h
  have hsub : IntKind.i64.wrap (D.n - D.used) = D.n - D.used := IntWalk.i64_in _ (by omega)
  by_cases hs : D.n - D.used < more
  · have HE : Hid (spendE D more = 4 ∧ spendD D more = D) := ⟨by simp [spendE, hs], by simp [spendD, hs]⟩
    go_enter Tryz.func225, Tryz.ntmps225
    go_wp2_with fail
    go_quiet (fail)
    clear hsub
    go_wp2_with fail
    go_ret
    exact ⟨by rw [HE.out.1]; rfl, by rw [HE.out.2]; exact HH.out.mod0 ((Mod.refl _ _).drewN _), (Mod.refl _ _).drewN _⟩
  · by_cases hl : D.left = 0
    · have HE : Hid (spendE D more = 5 ∧ spendD D more = { D with off := true, left := -1 }) := ⟨by simp [spendE, hs, hl], by simp [spendD, hs, hl]⟩
      have hlb : (D.left == 0) = true := by simp [hl]
      clear hl
      go_enter Tryz.func225, Tryz.ntmps225
      go_wp2_with fail
      go_quiet (fail)
      clear hsub
      go_wp2_with fail
      go_ret
      refine ⟨by rw [HE.out.1]; rfl, ?_, (((Mod.refl _ _).drewN _).set1 _ _).set1 _ _⟩
      rw [HE.out.2]
      exact ((HH.out.mod0 ((Mod.refl _ _).drewN _)).setOff true).setLeft (-1)
    · have HE : Hid (spendE D more = 0 ∧ spendD D more = { D with left := max (D.left - 1) (-1), done := wrap64 (D.done + 1), used := D.used + more }) := ⟨by simp [spendE, hs, hl], by simp [spendD, hs, hl]⟩
      have hlb : (D.left == 0) = false := by simp [hl]
      clear hsub
      have hsub : IntKind.i64.wrap (D.n - D.used) = D.n - D.used := IntWalk.i64_in _ (by omega)
      have hh : 0 < D.left ∨ D.left ≤ -1 := by omega
      clear hl
      rcases hh with hl | hl
      · have HM : Hid (max (D.left - 1) (-1) = D.left - 1) := by show max (D.left - 1) (-1) = D.left - 1; omega
        go_enter Tryz.func225, Tryz.ntmps225
        go_wp2_with fail
        go_quiet (fail)
        clear hsub
        go_wp2_with (go_at_call 270; refine (add_any d 3 D.done _ (by go_simp) (by go_simp)).mono ?_; rintro e w' ⟨rfl, rfl⟩)
        go_ret
        refine ⟨by rw [HE.out.1]; rfl, ?_, ((((Mod.refl _ _).drewN _).set1 _ _).set1 _ _).set1 _ _⟩
        rw [HE.out.2, HM.out]
        exact (((HH.out.mod0 ((Mod.refl _ _).drewN _)).setLeft (D.left - 1)).setDone (wrap64 (D.done + 1))).setUsed (D.used + more)
      · have HM : Hid (max (D.left - 1) (-1) = -1) := by show max (D.left - 1) (-1) = -1; omega
        go_enter Tryz.func225, Tryz.ntmps225
        go_wp2_with fail
        go_quiet (fail)
        clear hsub
        go_wp2_with (go_at_call 270; refine (add_any d 3 D.done _ (by go_simp) (by go_simp)).mono ?_; rintro e w' ⟨rfl, rfl⟩)
        go_ret
        refine ⟨by rw [HE.out.1]; rfl, ?_, ((((Mod.refl _ _).drewN _).set1 _ _).set1 _ _).set1 _ _⟩
        rw [HE.out.2, HM.out]
        exact (((HH.out.mod0 ((Mod.refl _ _).drewN _)).setLeft (-1)).setDone (wrap64 (D.done + 1))).setUsed (D.used + more)

end Go.Proofs.YtgnpmmhpeianpaaGreatDoor

/- disk: right. -/
namespace Go.Proofs.YtgnpmmhpeianpaaGreatDoor
open Go.RowKit

def rightE (b : Bool) (D : Dk) : Int := if b = true then if D.off = true then 5 else 0 else 1

set_option maxRecDepth 100000 in
set_option maxHeartbeats 400000 in
theorem right_any (b : Bool) (G : Nat → Prop) (d m : Nat) (kvs : List (ByteArray × Value)) (D : Dk) (w : World) (h : DkAt w G d m kvs D) :
    Calls Tryz.prog 224 #[.pointer (some ⟨d, 0, none⟩), .bool b] w fun e w' => e = .returned (.int .i64 (rightE b D)) ∧ w = w' := by
  have c2 : w.cell? ⟨d, 2, none⟩ = some (.map (some m)) := h.blk.cell 2
  have c5 : w.cell? ⟨d, 5, none⟩ = some (.bool D.off) := h.blk.cell 5
  clear h
  unfold rightE
  generalize D.off = off at *
  cases b with
  | false =>
    go_enter Tryz.func224, Tryz.ntmps224
    go_wp2_with fail
    go_ret
    exact ⟨rfl, rfl⟩
  | true =>
    cases off
    all_goals
      go_enter Tryz.func224, Tryz.ntmps224
      go_wp2_with (go_at_call 168; refine (made_yes d m _ c2).mono ?_; rintro e w' ⟨rfl, rfl⟩)
      go_ret
      exact ⟨rfl, rfl⟩

/-- how a call on the disk ends. -/
def DkPost (F : Nat → Prop) (d : Nat) (D' : Dk) (v : Value) (w : World) (e : Ending) (w' : World) : Prop :=
  e = .returned v ∧ ∃ F', DiskIs w' F' d D' ∧ Mod F w w' ∧ ∀ k, F' k → F k ∨ w.heap.size ≤ k

def moreA (D : Dk) (nm : ByteArray) (n : Nat) : Int := if (findF D.files nm).isSome then (n : Int) else 16 + nm.size + n
def fileA (D : Dk) (nm : ByteArray) (b : List UInt8) : Fl := match findF D.files nm with
  | some f => ⟨nm, f.safe, f.bytes ++ b⟩
  | none => ⟨nm, 0, b⟩
def appendE (D : Dk) (nm : ByteArray) (b : List UInt8) : Int :=
  if named nm = true ∧ b.length ≤ 4096 then if D.off = true then 5 else spendE D (moreA D nm b.length) else 1
def appendD (D : Dk) (nm : ByteArray) (b : List UInt8) : Dk :=
  if named nm = true ∧ b.length ≤ 4096 ∧ D.off = false then
    if spendE D (moreA D nm b.length) = 0 then { spendD D (moreA D nm b.length) with files := putF D.files (fileA D nm b) } else spendD D (moreA D nm b.length)
  else D

theorem zeroFile (w : World) : (zeroValue 273).run Tryz.prog w = .ok (.agg #[.string ⟨#[]⟩, .int .i64 0, .slice none 0 0]) w := by kernel_rfl

theorem find_cost {k : ByteArray} {f : Fl} : ∀ {fs : List Fl}, findF fs k = some f → costF f ≤ usedF fs
  | [], h => by cases h
  | g :: r, h => by
    have hp : ∀ l : List Fl, 0 ≤ usedF l := fun l => by
      induction l with
      | nil => simp [usedF]
      | cons a l ih => simp only [usedF, costF]; omega
    rw [findF] at h
    split at h
    · cases h
      have := hp r
      simp only [usedF]; omega
    · have := find_cost h
      have h2 : 0 ≤ costF g := by unfold costF; omega
      simp only [usedF]; omega
theorem find_name {k : ByteArray} {f : Fl} : ∀ {fs : List Fl}, findF fs k = some f → f.name = k
  | [], h => by cases h
  | g :: r, h => by
    rw [findF] at h
    split at h
    · cases h; assumption
    · exact find_name h

end Go.Proofs.YtgnpmmhpeianpaaGreatDoor

/- disk: New, Has, Free, Off, Read, Sync. -/
namespace Go.Proofs.YtgnpmmhpeianpaaGreatDoor
open Go.RowKit

def newD (n : Int) : Dk := { n := n, used := 0, files := [], done := 0, left := -1, off := false }
theorem newD_ok {n : Int} (h0 : 0 ≤ n) (h1 : n ≤ 1099511627776) : DkOk (newD n) :=
  ⟨h0, h1, Int.le_refl _, h0, by simp [newD], by simp [newD], rfl, by simp [newD], by simp [newD], by simp [newD]⟩

set_option maxRecDepth 100000 in
set_option maxHeartbeats 400000 in
theorem new_yes (n : Int) (w : World) (hL : Lay w) (h0 : 0 ≤ n) (h1 : n ≤ 1099511627776) :
    Calls Tryz.prog 41 #[.int .i64 n] w fun e w' => ∃ d F, e = .returned (.tuple #[.pointer (some ⟨d, 0, none⟩), .int .i64 0]) ∧ DiskIs w' F d (newD n) ∧ Below w.heap.size w w' ∧ ∀ k, F k → w.heap.size ≤ k := by
  have hmm := @run_makeMap Tryz.prog
  have HL := Lib.hid hL
  clear hL
  go_enter Tryz.func41, Tryz.ntmps41
  go_wp2
  go_ret2
  have hm : Mod Non w (w.alloc (.map #[] 0)) := (Mod.refl Non w).alloc _
  have hm2 : Mod Non (w.alloc (.map #[] 0)) ((w.alloc (.map #[] 0)).alloc (.cells #[.int .i64 n, .int .i64 0, .map (some w.heap.size), .int .i64 0, .int .i64 (-1), .bool false] 121)) := (Mod.refl Non _).alloc _
  have hlt := HL.out.lt
  refine ⟨w.heap.size + 1, fun k => k = w.heap.size ∨ k = w.heap.size + 1, rfl, ⟨fun _ => False, w.heap.size, [], ⟨?_, (MapAt.new _ _).mod0' hm2, trivial, by omega, fun _ h => h.elim, (HL.out.mod0 hm).mod0 hm2, by omega, by omega⟩, .inr rfl, .inl rfl, fun _ h => h.elim, by omega, fun k hk => by simp; omega⟩, ?_, fun k hk => by omega⟩
  · have := Blk.new (w.alloc (.map #[] 0)) 121 #[.int .i64 n, .int .i64 0, .map (some w.heap.size), .int .i64 0, .int .i64 (-1), .bool false]
    rw [World.size_alloc] at this
    exact this
  · exact ((Below.refl _ w).alloc (Nat.le_refl _) _).alloc (by simp) _

set_option maxRecDepth 100000 in
set_option maxHeartbeats 400000 in
theorem new_no (n : Int) (w : World) (h : n < 0 ∨ 1099511627776 < n) :
    Calls Tryz.prog 41 #[.int .i64 n] w fun e w' => e = .returned (.tuple #[.pointer none, .int .i64 1]) ∧ w = w' := by
  rcases h with h | h
  all_goals
    go_enter Tryz.func41, Tryz.ntmps41
    go_wp2
    go_ret2
    exact ⟨rfl, rfl⟩

/-- what a lookup of a file hands over. -/
def gotten (o : Option Value) : Value := .tuple #[o.getD (.agg #[.string ⟨#[]⟩, .int .i64 0, .slice none 0 0]), .bool o.isSome]
theorem gotten_is (o : Option Value) : (if true = true then Value.tuple #[o.getD (.agg #[.string ⟨#[]⟩, .int .i64 0, .slice none 0 0]), .bool o.isSome] else o.getD (.agg #[.string ⟨#[]⟩, .int .i64 0, .slice none 0 0])) = gotten o := rfl
/-- the file that is found, opened. -/
theorem found {w : World} {G : Nat → Prop} {d m : Nat} {kvs : List (ByteArray × Value)} {D : Dk} {nm : ByteArray} {f : Fl} (hA : DkAt w G d m kvs D) (hf : findF D.files nm = some f) :
    ∃ Af cf, gotten (lookKV kvs nm) = .tuple #[.agg #[.string nm, .int .i64 (f.safe : Int), .slice Af f.bytes.length cf], .bool true] ∧ Rd w Af f.bytes.length (by8 f.bytes) ∧ f.bytes.length ≤ cf ∧ cf ≤ 9223372036854775807 ∧ (∀ b, blkOf Af = some b → G b) ∧ f.name = nm := by
  obtain ⟨v, hlk, hv1, Af, cf, rfl, h3, h4, h5, h6⟩ := hA.files.some_ nm hf
  have hfn := find_name hf
  refine ⟨Af, cf, ?_, h3, h4, h5, h6, hfn⟩
  rw [hlk]
  simp only [gotten, Option.getD_some, Option.isSome_some, hfn]
theorem lost {w : World} {G : Nat → Prop} {d m : Nat} {kvs : List (ByteArray × Value)} {D : Dk} {nm : ByteArray} (hA : DkAt w G d m kvs D) (hf : findF D.files nm = none) :
    gotten (lookKV kvs nm) = .tuple #[.agg #[.string ⟨#[]⟩, .int .i64 0, .slice none 0 0], .bool false] := by
  rw [hA.files.none_ nm hf]; rfl

set_option maxRecDepth 100000 in
set_option maxHeartbeats 400000 in
theorem has_nil (nm : ByteArray) (w : World) :
    Calls Tryz.prog 103 #[.pointer none, .string nm] w fun e w' => e = .returned (.bool false) ∧ w = w' := by
  go_enter Tryz.func103, Tryz.ntmps103
  go_wp2_with (go_at_call 168; refine (made_no _).mono ?_; rintro e w' ⟨rfl, rfl⟩)
  go_ret
  exact ⟨rfl, rfl⟩

set_option maxRecDepth 100000 in
set_option maxHeartbeats 400000 in
theorem has_any (nm : ByteArray) (F : Nat → Prop) (d : Nat) (D : Dk) (w : World) (h : DiskIs w F d D) :
    Calls Tryz.prog 103 #[.pointer (some ⟨d, 0, none⟩), .string nm] w fun e w' => e = .returned (.bool (findF D.files nm).isSome) ∧ Mod Non w w' := by
  obtain ⟨G, m, kvs, hA, _⟩ := h
  have c2 : w.cell? ⟨d, 2, none⟩ = some (.map (some m)) := hA.blk.cell 2
  have HA := Lib.hid hA
  cases hf : findF D.files nm with
  | none =>
    have HV := Lib.hid (lost hA hf)
    clear hA hf
    go_enter Tryz.func103, Tryz.ntmps103
    go_wp2_with (first
      | (go_at_call 168; refine (made_yes d m _ c2).mono ?_; rintro e w' ⟨rfl, rfl⟩)
      | (at_lookup; refine wpList_look _ rfl (.tmp 14) (.tmp 15) true rfl strKey HA.out.map Tryz.underlying114 Tryz.underlying9 (zeroFile _) nm rfl rfl _ HV.out ?_))
    go_ret
    exact ⟨rfl, (Mod.refl _ _).alloc _⟩
  | some f =>
    obtain ⟨Af, cf, hg, _⟩ := found hA hf
    have HV := Lib.hid hg
    clear hA hf hg
    go_enter Tryz.func103, Tryz.ntmps103
    go_wp2_with (first
      | (go_at_call 168; refine (made_yes d m _ c2).mono ?_; rintro e w' ⟨rfl, rfl⟩)
      | (at_lookup; refine wpList_look _ rfl (.tmp 14) (.tmp 15) true rfl strKey HA.out.map Tryz.underlying114 Tryz.underlying9 (zeroFile _) nm rfl rfl _ HV.out ?_))
    go_ret
    exact ⟨rfl, (Mod.refl _ _).alloc _⟩

/-- what Read answers. -/
def RdPost (D : Dk) (nm : ByteArray) (w : World) (e : Ending) (w' : World) : Prop :=
  if named nm = true then
    match findF D.files nm with
    | none => e = .returned (.tuple #[.slice none 0 0, .int .i64 3]) ∧ Mod Non w w'
    | some f => ∃ A c, e = .returned (.tuple #[.slice A f.bytes.length c, .int .i64 0]) ∧ w'.ownsRow w.heap.size 5 1 (.slice A f.bytes.length c) f.bytes.length (by8 f.bytes) ∧ Mod Non w w'
  else e = .returned (.tuple #[.slice none 0 0, .int .i64 1]) ∧ Mod Non w w'

set_option maxRecDepth 100000 in
set_option maxHeartbeats 400000 in
theorem read_nil (nm : ByteArray) (w : World) (hs : nm.size ≤ 9223372036854775807) :
    Calls Tryz.prog 113 #[.pointer none, .string nm] w fun e w' => e = .returned (.tuple #[.slice none 0 0, .int .i64 1]) ∧ w = w' := by
  cases hn : named nm
  all_goals
    have HN := Lib.hid hn
    clear hn
    go_enter Tryz.func113, Tryz.ntmps113
    go_wp2_with (first
      | (go_at_call 178; refine (named_any nm _ hs).mono ?_; rintro e w' ⟨rfl, rfl⟩; rw [HN.out])
      | (go_at_call 168; refine (made_no _).mono ?_; rintro e w' ⟨rfl, rfl⟩))
    go_ret2
    exact ⟨rfl, rfl⟩

set_option maxRecDepth 100000 in
set_option maxHeartbeats 800000 in
theorem read_any (nm : ByteArray) (F : Nat → Prop) (d : Nat) (D : Dk) (w : World) (h : DiskIs w F d D) (ok : DkOk D) (hs : nm.size ≤ 9223372036854775807) :
    Calls Tryz.prog 113 #[.pointer (some ⟨d, 0, none⟩), .string nm] w (RdPost D nm w) := by
  obtain ⟨G, m, kvs, hA, _⟩ := h
  have c2 : w.cell? ⟨d, 2, none⟩ = some (.map (some m)) := hA.blk.cell 2
  have HA := Lib.hid hA
  by_cases hn : named nm = true
  · have HN := Lib.hid hn
    cases hf : findF D.files nm with
    | none =>
      have HP : Hid (∀ w', Mod Non w w' → RdPost D nm w (.returned (.tuple #[.slice none 0 0, .int .i64 3])) w') := fun w' hm => by
        unfold RdPost; rw [if_pos hn, hf]; exact ⟨rfl, hm⟩
      have HV := Lib.hid (lost hA hf)
      clear hA hf hn
      go_enter Tryz.func113, Tryz.ntmps113
      go_wp2_with (first
        | (go_at_call 178; refine (named_any nm _ hs).mono ?_; rintro e w' ⟨rfl, rfl⟩; rw [HN.out])
        | (go_at_call 168; refine (made_yes d m _ c2).mono ?_; rintro e w' ⟨rfl, rfl⟩)
        | (at_lookup; refine wpList_look _ rfl (.tmp 20) (.tmp 21) true rfl strKey HA.out.map Tryz.underlying114 Tryz.underlying9 (zeroFile _) nm rfl rfl _ HV.out ?_))
      go_ret2
      exact HP.out _ ((Mod.refl _ _).alloc _)
    | some f =>
      have HP : Hid (∀ w' A c, w'.ownsRow w.heap.size 5 1 (.slice A f.bytes.length c) f.bytes.length (by8 f.bytes) → Mod Non w w' → RdPost D nm w (.returned (.tuple #[.slice A f.bytes.length c, .int .i64 0])) w') := fun w' A c ho hm => by
        unfold RdPost; rw [if_pos hn, hf]; exact ⟨A, c, rfl, ho, hm⟩
      obtain ⟨Af, cf, hg, hr, _, _, _, _⟩ := found hA hf
      have hfl : f.bytes.length ≤ 1099511627776 := by
        have hc := find_cost hf
        have h1 := ok.us; have h2 := ok.u1; have h3 := ok.n1
        unfold costF at hc
        omega
      have HV := Lib.hid hg
      clear hA hf hg hn
      generalize hl : f.bytes.length = l at *
      have HL := Lib.hid hl
      clear hl
      go_enter Tryz.func113, Tryz.ntmps113
      go_wp2_with (first
        | (go_at_call 178; refine (named_any nm _ hs).mono ?_; rintro e w' ⟨rfl, rfl⟩; rw [HN.out])
        | (go_at_call 168; refine (made_yes d m _ c2).mono ?_; rintro e w' ⟨rfl, rfl⟩)
        | (at_lookup; refine wpList_look _ rfl (.tmp 20) (.tmp 21) true rfl strKey HA.out.map Tryz.underlying114 Tryz.underlying9 (zeroFile _) nm rfl rfl _ HV.out ?_)
        | (go_at_call 93; refine (clone_any Af l cf f.bytes _ (hr.alloc _) (by omega)).mono ?_; rintro e w1 ⟨A1, c1, rfl, ho1, hb1⟩))
      go_ret2
      have hm : Mod Non w w1 := ((Mod.refl Non w).alloc _).trans0 (Mod.of_below hb1)
      exact HP.out _ _ _ (own_mono ho1 (by simp)) hm
  · have hn' : named nm = false := by simpa using hn
    have HN := Lib.hid hn'
    clear hn'
    have HP : Hid (∀ w', Mod Non w w' → RdPost D nm w (.returned (.tuple #[.slice none 0 0, .int .i64 1])) w') := fun w' hm => by
      unfold RdPost; rw [if_neg hn]; exact ⟨rfl, hm⟩
    clear hA hn
    go_enter Tryz.func113, Tryz.ntmps113
    go_wp2_with (go_at_call 178; refine (named_any nm _ hs).mono ?_; rintro e w' ⟨rfl, rfl⟩; rw [HN.out])
    go_ret2
    exact HP.out _ (Mod.refl _ _)

end Go.Proofs.YtgnpmmhpeianpaaGreatDoor
