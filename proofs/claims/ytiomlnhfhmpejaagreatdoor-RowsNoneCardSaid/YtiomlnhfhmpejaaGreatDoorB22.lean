/- disk: right. -/
import Derived.Test.YtiomlnhfhmpejaaGreatDoorB21
import Derived.Test.YtiomlnhfhmpejaaGreatDoorB13
import Derived.Deep.RegionHeld3
import Derived.Test.YtiomlnhfhmpejaaGreatDoorB03
namespace Go.Proofs.YtiomlnhfhmpejaaGreatDoor
open Go.RowKit

def rightE (b : Bool) (D : Dk) : Int := if b = true then if D.off = true then 5 else 0 else 1

set_option maxRecDepth 100000 in
set_option maxHeartbeats 400000 in
theorem right_any (b : Bool) (G : Nat → Prop) (d m : Nat) (kvs : List (ByteArray × Value)) (D : Dk) (w : World) (h : DkAt w G d m kvs D) :
    Calls Tryz.prog 195 #[.pointer (some ⟨d, 0, none⟩), .bool b] w fun e w' => e = .returned (.int .i64 (rightE b D)) ∧ w = w' := by
  have c2 : w.cell? ⟨d, 2, none⟩ = some (.map (some m)) := h.blk.cell 2
  have c5 : w.cell? ⟨d, 5, none⟩ = some (.bool D.off) := h.blk.cell 5
  clear h
  unfold rightE
  generalize D.off = off at *
  cases b with
  | false =>
    go_enter Tryz.func195, Tryz.ntmps195
    go_wp2_with fail
    go_ret
    exact ⟨rfl, rfl⟩
  | true =>
    cases off
    all_goals
      go_enter Tryz.func195, Tryz.ntmps195
      go_wp2_with (go_at_call 133; refine (made_yes d m _ c2).mono ?_; rintro e w' ⟨rfl, rfl⟩)
      go_ret
      exact ⟨rfl, rfl⟩

/-- how a call on the disk ends. -/
def DkPost (F : Nat → Prop) (d : Nat) (D' : Dk) (v : Value) (w : World) (e : Ending) (w' : World) : Prop :=
  e = .returned v ∧ ∃ F', DiskIs w' F' d D' ∧ Mod F w w' ∧ ∀ k, F' k → F k ∨ w.heap.size ≤ k

def moreA (D : Dk) (nm : ByteArray) (n : Nat) : Int := if (findF D.files nm).isSome then (n : Int) else 16 + nm.size + n
def fileA (D : Dk) (nm : ByteArray) (b : List UInt8) : Fl := match findF D.files nm with
  | some f => ⟨nm, f.safe, f.bytes ++ b⟩
  | none => ⟨nm, 0, b⟩
def appendE (D : Dk) (nm : ByteArray) (b : List UInt8) : Int :=
  if named nm = true ∧ b.length ≤ 4096 then if D.off = true then 5 else spendE D (moreA D nm b.length) else 1
def appendD (D : Dk) (nm : ByteArray) (b : List UInt8) : Dk :=
  if named nm = true ∧ b.length ≤ 4096 ∧ D.off = false then
    if spendE D (moreA D nm b.length) = 0 then { spendD D (moreA D nm b.length) with files := putF D.files (fileA D nm b) } else spendD D (moreA D nm b.length)
  else D

theorem zeroFile (w : World) : (zeroValue 240).run Tryz.prog w = .ok (.agg #[.string ⟨#[]⟩, .int .i64 0, .slice none 0 0]) w := by kernel_rfl

theorem find_cost {k : ByteArray} {f : Fl} : ∀ {fs : List Fl}, findF fs k = some f → costF f ≤ usedF fs
  | [], h => by cases h
  | g :: r, h => by
    have hp : ∀ l : List Fl, 0 ≤ usedF l := fun l => by
      induction l with
      | nil => simp [usedF]
      | cons a l ih => simp only [usedF, costF]; omega
    rw [findF] at h
    split at h
    · cases h
      have := hp r
      simp only [usedF]; omega
    · have := find_cost h
      have h2 : 0 ≤ costF g := by unfold costF; omega
      simp only [usedF]; omega
theorem find_name {k : ByteArray} {f : Fl} : ∀ {fs : List Fl}, findF fs k = some f → f.name = k
  | [], h => by cases h
  | g :: r, h => by
    rw [findF] at h
    split at h
    · cases h; assumption
    · exact find_name h

end Go.Proofs.YtiomlnhfhmpejaaGreatDoor

/- disk: New, Has, Free, Off, Read, Sync. -/
namespace Go.Proofs.YtiomlnhfhmpejaaGreatDoor
open Go.RowKit

def newD (n : Int) : Dk := { n := n, used := 0, files := [], done := 0, left := -1, off := false }
theorem newD_ok {n : Int} (h0 : 0 ≤ n) (h1 : n ≤ 1099511627776) : DkOk (newD n) :=
  ⟨h0, h1, Int.le_refl _, h0, by simp [newD], by simp [newD], rfl, by simp [newD], by simp [newD], by simp [newD]⟩

set_option maxRecDepth 100000 in
set_option maxHeartbeats 400000 in
theorem new_yes (n : Int) (w : World) (hL : Lay w) (h0 : 0 ≤ n) (h1 : n ≤ 1099511627776) :
    Calls Tryz.prog 14 #[.int .i64 n] w fun e w' => ∃ d F, e = .returned (.tuple #[.pointer (some ⟨d, 0, none⟩), .int .i64 0]) ∧ DiskIs w' F d (newD n) ∧ Below w.heap.size w w' ∧ ∀ k, F k → w.heap.size ≤ k := by
  have hmm := @run_makeMap Tryz.prog
  have HL := Lib.hid hL
  clear hL
  go_enter Tryz.func14, Tryz.ntmps14
  go_wp2
  go_ret2
  have hm : Mod Non w (w.alloc (.map #[] 0)) := (Mod.refl Non w).alloc _
  have hm2 : Mod Non (w.alloc (.map #[] 0)) ((w.alloc (.map #[] 0)).alloc (.cells #[.int .i64 n, .int .i64 0, .map (some w.heap.size), .int .i64 0, .int .i64 (-1), .bool false] 94)) := (Mod.refl Non _).alloc _
  have hlt := HL.out.lt
  refine ⟨w.heap.size + 1, fun k => k = w.heap.size ∨ k = w.heap.size + 1, rfl, ⟨fun _ => False, w.heap.size, [], ⟨?_, (MapAt.new _ _).mod0' hm2, trivial, by omega, fun _ h => h.elim, (HL.out.mod0 hm).mod0 hm2, by omega, by omega⟩, .inr rfl, .inl rfl, fun _ h => h.elim, by omega, fun k hk => by simp; omega⟩, ?_, fun k hk => by omega⟩
  · have := Blk.new (w.alloc (.map #[] 0)) 94 #[.int .i64 n, .int .i64 0, .map (some w.heap.size), .int .i64 0, .int .i64 (-1), .bool false]
    rw [World.size_alloc] at this
    exact this
  · exact ((Below.refl _ w).alloc (Nat.le_refl _) _).alloc (by simp) _

set_option maxRecDepth 100000 in
set_option maxHeartbeats 400000 in
theorem new_no (n : Int) (w : World) (h : n < 0 ∨ 1099511627776 < n) :
    Calls Tryz.prog 14 #[.int .i64 n] w fun e w' => e = .returned (.tuple #[.pointer none, .int .i64 1]) ∧ w = w' := by
  rcases h with h | h
  all_goals
    go_enter Tryz.func14, Tryz.ntmps14
    go_wp2
    go_ret2
    exact ⟨rfl, rfl⟩

/-- what a lookup of a file hands over. -/
def gotten (o : Option Value) : Value := .tuple #[o.getD (.agg #[.string ⟨#[]⟩, .int .i64 0, .slice none 0 0]), .bool o.isSome]
theorem gotten_is (o : Option Value) : (if true = true then Value.tuple #[o.getD (.agg #[.string ⟨#[]⟩, .int .i64 0, .slice none 0 0]), .bool o.isSome] else o.getD (.agg #[.string ⟨#[]⟩, .int .i64 0, .slice none 0 0])) = gotten o := rfl
/-- the file that is found, opened. -/
theorem found {w : World} {G : Nat → Prop} {d m : Nat} {kvs : List (ByteArray × Value)} {D : Dk} {nm : ByteArray} {f : Fl} (hA : DkAt w G d m kvs D) (hf : findF D.files nm = some f) :
    ∃ Af cf, gotten (lookKV kvs nm) = .tuple #[.agg #[.string nm, .int .i64 (f.safe : Int), .slice Af f.bytes.length cf], .bool true] ∧ Rd w Af f.bytes.length (by8 f.bytes) ∧ f.bytes.length ≤ cf ∧ cf ≤ 9223372036854775807 ∧ (∀ b, blkOf Af = some b → G b) ∧ f.name = nm := by
  obtain ⟨v, hlk, hv1, Af, cf, rfl, h3, h4, h5, h6⟩ := hA.files.some_ nm hf
  have hfn := find_name hf
  refine ⟨Af, cf, ?_, h3, h4, h5, h6, hfn⟩
  rw [hlk]
  simp only [gotten, Option.getD_some, Option.isSome_some, hfn]
theorem lost {w : World} {G : Nat → Prop} {d m : Nat} {kvs : List (ByteArray × Value)} {D : Dk} {nm : ByteArray} (hA : DkAt w G d m kvs D) (hf : findF D.files nm = none) :
    gotten (lookKV kvs nm) = .tuple #[.agg #[.string ⟨#[]⟩, .int .i64 0, .slice none 0 0], .bool false] := by
  rw [hA.files.none_ nm hf]; rfl

set_option maxRecDepth 100000 in
set_option maxHeartbeats 400000 in
theorem has_nil (nm : ByteArray) (w : World) :
    Calls Tryz.prog 62 #[.pointer none, .string nm] w fun e w' => e = .returned (.bool false) ∧ w = w' := by
  go_enter Tryz.func62, Tryz.ntmps62
  go_wp2_with (go_at_call 133; refine (made_no _).mono ?_; rintro e w' ⟨rfl, rfl⟩)
  go_ret
  exact ⟨rfl, rfl⟩

set_option maxRecDepth 100000 in
set_option maxHeartbeats 400000 in
theorem has_any (nm : ByteArray) (F : Nat → Prop) (d : Nat) (D : Dk) (w : World) (h : DiskIs w F d D) :
    Calls Tryz.prog 62 #[.pointer (some ⟨d, 0, none⟩), .string nm] w fun e w' => e = .returned (.bool (findF D.files nm).isSome) ∧ Mod Non w w' := by
  obtain ⟨G, m, kvs, hA, _⟩ := h
  have c2 : w.cell? ⟨d, 2, none⟩ = some (.map (some m)) := hA.blk.cell 2
  have HA := Lib.hid hA
  cases hf : findF D.files nm with
  | none =>
    have HV := Lib.hid (lost hA hf)
    clear hA hf
    go_enter Tryz.func62, Tryz.ntmps62
    go_wp2_with (first
      | (go_at_call 133; refine (made_yes d m _ c2).mono ?_; rintro e w' ⟨rfl, rfl⟩)
      | (at_lookup; refine wpList_look _ rfl (.tmp 14) (.tmp 15) true rfl strKey HA.out.map Tryz.underlying87 Tryz.underlying9 (zeroFile _) nm rfl rfl _ HV.out ?_))
    go_ret
    exact ⟨rfl, (Mod.refl _ _).alloc _⟩
  | some f =>
    obtain ⟨Af, cf, hg, _⟩ := found hA hf
    have HV := Lib.hid hg
    clear hA hf hg
    go_enter Tryz.func62, Tryz.ntmps62
    go_wp2_with (first
      | (go_at_call 133; refine (made_yes d m _ c2).mono ?_; rintro e w' ⟨rfl, rfl⟩)
      | (at_lookup; refine wpList_look _ rfl (.tmp 14) (.tmp 15) true rfl strKey HA.out.map Tryz.underlying87 Tryz.underlying9 (zeroFile _) nm rfl rfl _ HV.out ?_))
    go_ret
    exact ⟨rfl, (Mod.refl _ _).alloc _⟩

/-- what Read answers. -/
def RdPost (D : Dk) (nm : ByteArray) (w : World) (e : Ending) (w' : World) : Prop :=
  if named nm = true then
    match findF D.files nm with
    | none => e = .returned (.tuple #[.slice none 0 0, .int .i64 3]) ∧ Mod Non w w'
    | some f => ∃ A c, e = .returned (.tuple #[.slice A f.bytes.length c, .int .i64 0]) ∧ w'.ownsRow w.heap.size 5 1 (.slice A f.bytes.length c) f.bytes.length (by8 f.bytes) ∧ Mod Non w w'
  else e = .returned (.tuple #[.slice none 0 0, .int .i64 1]) ∧ Mod Non w w'

set_option maxRecDepth 100000 in
set_option maxHeartbeats 400000 in
theorem read_nil (nm : ByteArray) (w : World) (hs : nm.size ≤ 9223372036854775807) :
    Calls Tryz.prog 73 #[.pointer none, .string nm] w fun e w' => e = .returned (.tuple #[.slice none 0 0, .int .i64 1]) ∧ w = w' := by
  cases hn : named nm
  all_goals
    have HN := Lib.hid hn
    clear hn
    go_enter Tryz.func73, Tryz.ntmps73
    go_wp2_with (first
      | (go_at_call 143; refine (named_any nm _ hs).mono ?_; rintro e w' ⟨rfl, rfl⟩; rw [HN.out])
      | (go_at_call 133; refine (made_no _).mono ?_; rintro e w' ⟨rfl, rfl⟩))
    go_ret2
    exact ⟨rfl, rfl⟩

set_option maxRecDepth 100000 in
set_option maxHeartbeats 800000 in
theorem read_any (nm : ByteArray) (F : Nat → Prop) (d : Nat) (D : Dk) (w : World) (h : DiskIs w F d D) (ok : DkOk D) (hs : nm.size ≤ 9223372036854775807) :
    Calls Tryz.prog 73 #[.pointer (some ⟨d, 0, none⟩), .string nm] w (RdPost D nm w) := by
  obtain ⟨G, m, kvs, hA, _⟩ := h
  have c2 : w.cell? ⟨d, 2, none⟩ = some (.map (some m)) := hA.blk.cell 2
  have HA := Lib.hid hA
  by_cases hn : named nm = true
  · have HN := Lib.hid hn
    cases hf : findF D.files nm with
    | none =>
      have HP : Hid (∀ w', Mod Non w w' → RdPost D nm w (.returned (.tuple #[.slice none 0 0, .int .i64 3])) w') := fun w' hm => by
        unfold RdPost; rw [if_pos hn, hf]; exact ⟨rfl, hm⟩
      have HV := Lib.hid (lost hA hf)
      clear hA hf hn
      go_enter Tryz.func73, Tryz.ntmps73
      go_wp2_with (first
        | (go_at_call 143; refine (named_any nm _ hs).mono ?_; rintro e w' ⟨rfl, rfl⟩; rw [HN.out])
        | (go_at_call 133; refine (made_yes d m _ c2).mono ?_; rintro e w' ⟨rfl, rfl⟩)
        | (at_lookup; refine wpList_look _ rfl (.tmp 20) (.tmp 21) true rfl strKey HA.out.map Tryz.underlying87 Tryz.underlying9 (zeroFile _) nm rfl rfl _ HV.out ?_))
      go_ret2
      exact HP.out _ ((Mod.refl _ _).alloc _)
    | some f =>
      have HP : Hid (∀ w' A c, w'.ownsRow w.heap.size 5 1 (.slice A f.bytes.length c) f.bytes.length (by8 f.bytes) → Mod Non w w' → RdPost D nm w (.returned (.tuple #[.slice A f.bytes.length c, .int .i64 0])) w') := fun w' A c ho hm => by
        unfold RdPost; rw [if_pos hn, hf]; exact ⟨A, c, rfl, ho, hm⟩
      obtain ⟨Af, cf, hg, hr, _, _, _, _⟩ := found hA hf
      have hfl : f.bytes.length ≤ 1099511627776 := by
        have hc := find_cost hf
        have h1 := ok.us; have h2 := ok.u1; have h3 := ok.n1
        unfold costF at hc
        omega
      have HV := Lib.hid hg
      clear hA hf hg hn
      generalize hl : f.bytes.length = l at *
      have HL := Lib.hid hl
      clear hl
      go_enter Tryz.func73, Tryz.ntmps73
      go_wp2_with (first
        | (go_at_call 143; refine (named_any nm _ hs).mono ?_; rintro e w' ⟨rfl, rfl⟩; rw [HN.out])
        | (go_at_call 133; refine (made_yes d m _ c2).mono ?_; rintro e w' ⟨rfl, rfl⟩)
        | (at_lookup; refine wpList_look _ rfl (.tmp 20) (.tmp 21) true rfl strKey HA.out.map Tryz.underlying87 Tryz.underlying9 (zeroFile _) nm rfl rfl _ HV.out ?_)
        | (go_at_call 123; refine (clone_any Af l cf f.bytes _ (hr.alloc _) (by omega)).mono ?_; rintro e w1 ⟨A1, c1, rfl, ho1, hb1⟩))
      go_ret2
      have hm : Mod Non w w1 := ((Mod.refl Non w).alloc _).trans0 (Mod.of_below hb1)
      exact HP.out _ _ _ (own_mono ho1 (by simp)) hm
  · have hn' : named nm = false := by simpa using hn
    have HN := Lib.hid hn'
    clear hn'
    have HP : Hid (∀ w', Mod Non w w' → RdPost D nm w (.returned (.tuple #[.slice none 0 0, .int .i64 1])) w') := fun w' hm => by
      unfold RdPost; rw [if_neg hn]; exact ⟨rfl, hm⟩
    clear hA hn
    go_enter Tryz.func73, Tryz.ntmps73
    go_wp2_with (go_at_call 143; refine (named_any nm _ hs).mono ?_; rintro e w' ⟨rfl, rfl⟩; rw [HN.out])
    go_ret2
    exact HP.out _ (Mod.refl _ _)

end Go.Proofs.YtiomlnhfhmpejaaGreatDoor
