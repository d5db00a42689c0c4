/- disk: right, Append. -/
import Derived.Test.YtgdamcimpgapgaaGreatDoorDisk2
import Derived.Test.YtgdamcimpgapgaaGreatDoorCode4
import Derived.Test.YtgdamcimpgapgaaGreatDoorCode6
import Derived.Deep.RegionHeld3
namespace Go.Proofs.YtgdamcimpgapgaaGreatDoor
open Go.RowKit

def rightE (b : Bool) (D : Dk) : Int := if b = true then if D.off = true then 5 else 0 else 1

set_option maxRecDepth 100000 in
set_option maxHeartbeats 400000 in
theorem right_any (b : Bool) (G : Nat → Prop) (d m : Nat) (kvs : List (ByteArray × Value)) (D : Dk) (w : World) (h : DkAt w G d m kvs D) :
    Calls Tryz.prog 70 #[.pointer (some ⟨d, 0, none⟩), .bool b] w fun e w' => e = .returned (.int .i64 (rightE b D)) ∧ w = w' := by
  have c2 : w.cell? ⟨d, 2, none⟩ = some (.map (some m)) := h.blk.cell 2
  have c5 : w.cell? ⟨d, 5, none⟩ = some (.bool D.off) := h.blk.cell 5
  clear h
  unfold rightE
  generalize D.off = off at *
  cases b with
  | false =>
    go_enter Tryz.func70, Tryz.ntmps70
    go_wp2_with fail
    go_ret
    exact ⟨rfl, rfl⟩
  | true =>
    cases off
    all_goals
      go_enter Tryz.func70, Tryz.ntmps70
      go_wp2_with (go_at_call 25; refine (made_yes d m _ c2).mono ?_; rintro e w' ⟨rfl, rfl⟩)
      go_ret
      exact ⟨rfl, rfl⟩

/-- how a call on the disk ends. -/
def DkPost (F : Nat → Prop) (d : Nat) (D' : Dk) (v : Value) (w : World) (e : Ending) (w' : World) : Prop :=
  e = .returned v ∧ ∃ F', DiskIs w' F' d D' ∧ Mod F w w' ∧ ∀ k, F' k → F k ∨ w.heap.size ≤ k

def moreA (D : Dk) (nm : ByteArray) (n : Nat) : Int := if (findF D.files nm).isSome then (n : Int) else 16 + nm.size + n
def fileA (D : Dk) (nm : ByteArray) (b : List UInt8) : Fl := match findF D.files nm with
  | some f => ⟨nm, f.safe, f.bytes ++ b⟩
  | none => ⟨nm, 0, b⟩
def appendE (D : Dk) (nm : ByteArray) (b : List UInt8) : Int :=
  if named nm = true ∧ b.length ≤ 4096 then if D.off = true then 5 else spendE D (moreA D nm b.length) else 1
def appendD (D : Dk) (nm : ByteArray) (b : List UInt8) : Dk :=
  if named nm = true ∧ b.length ≤ 4096 ∧ D.off = false then
    if spendE D (moreA D nm b.length) = 0 then { spendD D (moreA D nm b.length) with files := putF D.files (fileA D nm b) } else spendD D (moreA D nm b.length)
  else D

theorem zeroFile (w : World) : (zeroValue 69).run Tryz.prog w = .ok (.agg #[.string ⟨#[]⟩, .int .i64 0, .slice none 0 0]) w := by kernel_rfl

theorem find_cost {k : ByteArray} {f : Fl} : ∀ {fs : List Fl}, findF fs k = some f → costF f ≤ usedF fs
  | [], h => by cases h
  | g :: r, h => by
    have hp : ∀ l : List Fl, 0 ≤ usedF l := fun l => by
      induction l with
      | nil => simp [usedF]
      | cons a l ih => simp only [usedF, costF]; omega
    rw [findF] at h
    split at h
    · cases h
      have := hp r
      simp only [usedF]; omega
    · have := find_cost h
      have h2 : 0 ≤ costF g := by unfold costF; omega
      simp only [usedF]; omega
theorem find_name {k : ByteArray} {f : Fl} : ∀ {fs : List Fl}, findF fs k = some f → f.name = k
  | [], h => by cases h
  | g :: r, h => by
    rw [findF] at h
    split at h
    · cases h; assumption
    · exact find_name h

set_option maxRecDepth 100000 in
set_option maxHeartbeats 1000000 in
theorem append_has (F : Nat → Prop) (d : Nat) (D : Dk) (nm : ByteArray) (A : Option Addr) (n c : Nat) (b : List UInt8) (f : Fl) (w : World) (h : DiskIs w F d D) (ok : DkOk D) (hb : RdO w F A n (by8 b))
    (hn : named nm = true) (hl : n ≤ 4096) (hoff : D.off = false) (hf : findF D.files nm = some f) (D' : Dk) (E : Int) (hE : spendE D n = E)
    (hD : (if E = 0 then { spendD D n with files := putF D.files ⟨nm, f.safe, f.bytes ++ b⟩ } else spendD D n) = D') :
    Calls Tryz.prog 35 #[.pointer (some ⟨d, 0, none⟩), .string nm, .slice A n c] w (DkPost F d D' (.int .i64 E) w) := by
  have HD := Lib.hid hD
  have HE := Lib.hid hE
  clear hD hE
  obtain ⟨G, m, kvs, hA, hFd, hFm, hGF, hFp, hFl⟩ := h
  have hbl : b.length = n := by simpa using hb.1.1
  obtain ⟨v, hlk, hv⟩ := hA.files.some_ nm hf
  obtain ⟨hv1, Af, cf, rfl, hrf, hcf1, hcf2, hfG⟩ := hv
  have hfn : f.name = nm := find_name hf
  have hcost := find_cost hf
  have hflen : f.bytes.length ≤ 1099511627776 := by
    have h1 := ok.us; have h2 := ok.u1; have h3 := ok.n1
    unfold costF at hcost
    omega
  have hnsz : nm.size ≤ 100 := by
    unfold named at hn
    simp at hn
    omega
  have HN := Lib.hid hn
  have HOFF := Lib.hid hoff
  have HFN := Lib.hid hfn
  have HLK := Lib.hid hlk
  have HA := Lib.hid hA
  have c2 : w.cell? ⟨d, 2, none⟩ = some (.map (some m)) := hA.blk.cell 2
  have hdl := hA.blk.lt
  have HR : Hid (rightE true D = 0) := by show rightE true D = 0; simp [rightE, hoff]
  rw [hfn] at hlk hv1
  have HV : Hid ((if true = true then Value.tuple #[(lookKV kvs nm).getD (.agg #[.string ⟨#[]⟩, .int .i64 0, .slice none 0 0]), .bool (lookKV kvs nm).isSome] else (lookKV kvs nm).getD (.agg #[.string ⟨#[]⟩, .int .i64 0, .slice none 0 0])) = Value.tuple #[.agg #[.string nm, .int .i64 (f.safe : Int), .slice Af f.bytes.length cf], .bool true]) := by
    rw [hlk]; rfl
  have hlb : decide ((n : Int) ≤ 4096) = true := by simp; omega
  clear hn hoff hfn hlk hA hv1 hf hcost
  go_enter Tryz.func35, Tryz.ntmps35
  go_wp2_with (first
    | (go_at_call 71; refine (named_any nm _ (by omega)).mono ?_; rintro e w' ⟨rfl, rfl⟩; rw [HN.out])
    | (go_at_call 70; refine (right_any true G d m kvs D _ HA.out).mono ?_; rintro e w' ⟨rfl, rfl⟩; rw [HR.out])
    | (at_lookup; refine wpList_look _ rfl (.tmp 28) (.tmp 29) true rfl strKey HA.out.map Tryz.underlying61 Tryz.underlying9 (zeroFile _) nm rfl rfl _ HV.out ?_))
  have c2' : (w.alloc (.cells #[.string nm, .int .i64 (f.safe : Int), .slice Af f.bytes.length cf] 69)).cell? ⟨d, 2, none⟩ = some (.map (some m)) := World.cell?_alloc_lt _ _ _ hdl |>.trans c2
  refine (spend_any G d m kvs D (n : Int) _ (HA.out.mod0 ((Mod.refl Non w).alloc _)) ok (by have := ok.u0; omega)).mono ?_
  rintro e w1 ⟨rfl, hA1, hm1⟩
  rw [HE.out]
  have HA1 := Lib.hid hA1
  have HM1 := Lib.hid hm1
  have hbox : Blk w1 w.heap.size 69 #[.string nm, .int .i64 (f.safe : Int), .slice Af f.bytes.length cf] := (Blk.new w _ _).mod hm1 (by omega)
  have hsz : w.heap.size < w1.heap.size := hbox.lt
  have c21 : w1.cell? ⟨d, 2, none⟩ = some (.map (some m)) := hA1.blk.cell 2
  have b1 : w1.cell? ⟨w.heap.size, 1, none⟩ = some (.int .i64 (f.safe : Int)) := hbox.cell 1
  have b2 : w1.cell? ⟨w.heap.size, 2, none⟩ = some (.slice Af f.bytes.length cf) := hbox.cell 2
  clear hA1 hm1 c2 c2'
  by_cases hE : E = 0
  · have HD' : Hid ({ spendD D n with files := putF D.files ⟨nm, f.safe, f.bytes ++ b⟩ } = D') := by
      have := HD.out
      rwa [if_pos hE] at this
    subst hE
    clear HD
    have rA : Rd w1 A n (by8 b) := (hb.1.alloc _).mod HM1.out (fun hn b hb' e => hb.2 hn b hb' (by subst e; exact hFd))
    have rF : Rd w1 Af f.bytes.length (by8 f.bytes) := (hrf.alloc _).mod HM1.out (fun _ b hb' e => by
      have h1 := (HA.out.gd b (hfG b hb')).1
      exact h1 e)
    have hflat : flat [⟨Af, f.bytes.length, cf, f.bytes⟩, ⟨A, n, c, b⟩] = f.bytes ++ b := by simp [flat]
    have hfl2 : (f.bytes ++ b).length = f.bytes.length + n := by simp [hbl]
    have HFL := Lib.hid hflat
    have HFL2 := Lib.hid hfl2
    clear hflat hfl2 hb hrf hbl
    go_wp2_with fail
    go_region_held3 (fun w' => w'.cell? ⟨d, 2, none⟩ = some (.map (some m)) ∧ w'.cell? ⟨w.heap.size, 1, none⟩ = some (.int .i64 (f.safe : Int)) ∧ w'.cell? ⟨w.heap.size, 2, none⟩ = some (.slice Af f.bytes.length cf))
      (first | go_keep)
      (first
        | (go_at_call 68
           refine (concat_any _ 2 2 [⟨Af, f.bytes.length, cf, f.bytes⟩, ⟨A, n, c, b⟩] _ (rd_two w1 31 ⟨Af, f.bytes.length, cf, f.bytes⟩ ⟨A, n, c, b⟩).drew ?_ (by rw [HFL.out, HFL2.out]; omega) (by omega)).mono ?_
           · intro x hx
             simp only [List.mem_cons, List.not_mem_nil, or_false] at hx
             rcases hx with rfl | rfl
             · exact (rF.alloc _).drew
             · exact (rA.alloc _).drew
           rw [HFL.out, HFL2.out]
           rintro e w2 ⟨A2, cc2, rfl, ho2, hb2⟩
           have hm2 : Mod Non w1 w2 := (((Mod.refl Non w1).alloc _).drew).trans0 (Mod.of_below hb2)
           have c22 := hm2.cell c21 (fun h => h)
           have b12 := hm2.cell b1 (fun h => h)
           have b22 := hm2.cell b2 (fun h => h))
        | (have _t := hm2
           obtain ⟨w3, hrun, hp3, hm3⟩ := MapAt.run_put (P := Tryz.prog) strKey (HA1.out.map.mod0' hm2) Tryz.underlying61 Tryz.underlying9 nm (.agg #[.string nm, .int .i64 (f.safe : Int), .slice A2 (f.bytes.length + n) cc2])
           rw [hrun]
           clear hrun
           have c23 := hm3.cell c22 (p := ⟨d, 2, none⟩) (fun e => HA1.out.dm e)
           have b13 := hm3.cell b12 (p := ⟨w.heap.size, 1, none⟩) (fun e => by have := HA.out.map.lt; simp only at e; omega)
           have b23 := hm3.cell b22 (p := ⟨w.heap.size, 2, none⟩) (fun e => by have := HA.out.map.lt; simp only at e; omega)
           simp only [Result.andThen, Oper.upon]))
    go_wp2_with fail
    go_ret
    have h12 : w1.heap.size ≤ w2.heap.size := hm2.size
    have h23 : w2.heap.size ≤ w3.heap.size := hm3.size
    have ho3 := own_mod ho2 hm3 (fun b hb e => by
      have h1 := (ho2.lt b hb).1
      have h2 := HA1.out.map.lt
      simp only [World.size_drew, World.size_alloc] at h1
      omega)
    have hfl : FlAt w3 (fun k => G k ∨ (w1.heap.size ≤ k ∧ k < w3.heap.size)) (nm, .agg #[.string nm, .int .i64 (f.safe : Int), .slice A2 (f.bytes.length + n) cc2]) ⟨nm, f.safe, f.bytes ++ b⟩ := by
      obtain ⟨A9, c9, e9, h91, h92⟩ := own_slice ho3
      injection e9 with e91 e92 e93
      subst e91 e93
      refine ⟨rfl, A2, cc2, by rw [HFL2.out], by rw [HFL2.out]; exact Rd.of_own ho3, by rw [HFL2.out]; exact h91, by simpa [maxLen] using h92, fun b' hb' => .inr ?_⟩
      have h1 := ho3.lt b' (by cases A2 <;> exact hb')
      simp only [World.size_drew, World.size_alloc] at h1
      omega
    have hA3 := (HA1.out.mod0 hm2).stored (f := ⟨nm, f.safe, f.bytes ++ b⟩) (B := w1.heap.size) hp3 hm3 (fun k hk => .inl hk) hfl (fun k hk => hk.imp id fun h => h.1) HA1.out.blk.lt HA1.out.map.lt
    rw [spendD_files] at hA3
    refine ⟨rfl, dk_fin (by rw [← HD'.out]; exact hA3) hFd hFm hFp hFl (fun k hk => ?_) ?_ HA.out.lay.lt⟩
    · rcases hk with hk | hk
      · exact .inl (hGF k hk)
      · exact .inr ⟨by omega, hk.2⟩
    · refine ((((Mod.refl F w).alloc _).trans HM1.out (fun k hk => by subst hk; exact .inl hFd)).trans0 hm2).trans hm3 (fun k hk => by subst hk; exact .inl hFm)
  · have HD' : Hid (spendD D n = D') := by
      have := HD.out
      rwa [if_neg hE] at this
    have hEb : (E == 0) = false := by simp [hE]
    clear HD hE
    go_wp2_with fail
    go_ret
    refine ⟨rfl, dk_fin (by rw [← HD'.out]; exact HA1.out) hFd hFm hFp hFl (fun k hk => .inl (hGF k hk)) ?_ HA.out.lay.lt⟩
    exact ((Mod.refl F w).alloc _).trans HM1.out (fun k hk => by subst hk; exact .inl hFd)

set_option maxRecDepth 100000 in
set_option maxHeartbeats 1000000 in
theorem append_new (F : Nat → Prop) (d : Nat) (D : Dk) (nm : ByteArray) (A : Option Addr) (n c : Nat) (b : List UInt8) (w : World) (h : DiskIs w F d D) (ok : DkOk D) (hb : RdO w F A n (by8 b))
    (hn : named nm = true) (hl : n ≤ 4096) (hoff : D.off = false) (hf : findF D.files nm = none) (D' : Dk) (E : Int) (hE : spendE D (16 + nm.size + n) = E)
    (hD : (if E = 0 then { spendD D (16 + nm.size + n) with files := putF D.files ⟨nm, 0, b⟩ } else spendD D (16 + nm.size + n)) = D') :
    Calls Tryz.prog 35 #[.pointer (some ⟨d, 0, none⟩), .string nm, .slice A n c] w (DkPost F d D' (.int .i64 E) w) := by
  have HD := Lib.hid hD
  have HE := Lib.hid hE
  clear hD hE
  obtain ⟨G, m, kvs, hA, hFd, hFm, hGF, hFp, hFl⟩ := h
  have hbl : b.length = n := by simpa using hb.1.1
  have hlk := hA.files.none_ nm hf
  have hnsz : nm.size ≤ 100 := by
    unfold named at hn
    simp at hn
    omega
  have HN := Lib.hid hn
  have HOFF := Lib.hid hoff
  have HLK := Lib.hid hlk
  have HA := Lib.hid hA
  have c2 : w.cell? ⟨d, 2, none⟩ = some (.map (some m)) := hA.blk.cell 2
  have hdl := hA.blk.lt
  have HR : Hid (rightE true D = 0) := by show rightE true D = 0; simp [rightE, hoff]
  have HV : Hid ((if true = true then Value.tuple #[(lookKV kvs nm).getD (.agg #[.string ⟨#[]⟩, .int .i64 0, .slice none 0 0]), .bool (lookKV kvs nm).isSome] else (lookKV kvs nm).getD (.agg #[.string ⟨#[]⟩, .int .i64 0, .slice none 0 0])) = Value.tuple #[.agg #[.string ⟨#[]⟩, .int .i64 0, .slice none 0 0], .bool false]) := by
    rw [hlk]; rfl
  have hlb : decide ((n : Int) ≤ 4096) = true := by simp; omega
  clear hn hoff hlk hA hf
  go_enter Tryz.func35, Tryz.ntmps35
  go_wp2_with (first
    | (go_at_call 71; refine (named_any nm _ (by omega)).mono ?_; rintro e w' ⟨rfl, rfl⟩; rw [HN.out])
    | (go_at_call 70; refine (right_any true G d m kvs D _ HA.out).mono ?_; rintro e w' ⟨rfl, rfl⟩; rw [HR.out])
    | (at_lookup; refine wpList_look _ rfl (.tmp 28) (.tmp 29) true rfl strKey HA.out.map Tryz.underlying61 Tryz.underlying9 (zeroFile _) nm rfl rfl _ HV.out ?_)
    | (go_at_call 72; refine (cost_any nm n _ (by omega) (by omega)).mono ?_; rintro e w' ⟨rfl, rfl⟩))
  have c2' : (w.alloc (.cells #[.string ⟨#[]⟩, .int .i64 0, .slice none 0 0] 69)).cell? ⟨d, 2, none⟩ = some (.map (some m)) := World.cell?_alloc_lt _ _ _ hdl |>.trans c2
  refine (spend_any G d m kvs D (16 + nm.size + n) _ (HA.out.mod0 ((Mod.refl Non w).alloc _)) ok (by have := ok.u0; omega)).mono ?_
  rintro e w1 ⟨rfl, hA1, hm1⟩
  rw [HE.out]
  have HA1 := Lib.hid hA1
  have HM1 := Lib.hid hm1
  have hbox : Blk w1 w.heap.size 69 #[.string ⟨#[]⟩, .int .i64 0, .slice none 0 0] := (Blk.new w _ _).mod hm1 (by omega)
  have hsz : w.heap.size < w1.heap.size := hbox.lt
  have c21 : w1.cell? ⟨d, 2, none⟩ = some (.map (some m)) := hA1.blk.cell 2
  have b1 : w1.cell? ⟨w.heap.size, 1, none⟩ = some (.int .i64 0) := hbox.cell 1
  have b2 : w1.cell? ⟨w.heap.size, 2, none⟩ = some (.slice none 0 0) := hbox.cell 2
  clear hA1 hm1 c2 c2'
  by_cases hE : E = 0
  · have HD' : Hid ({ spendD D (16 + nm.size + n) with files := putF D.files ⟨nm, 0, b⟩ } = D') := by
      have := HD.out
      rwa [if_pos hE] at this
    subst hE
    clear HD
    have rA : Rd w1 A n (by8 b) := (hb.1.alloc _).mod HM1.out (fun hn b hb' e => hb.2 hn b hb' (by subst e; exact hFd))
    have hflat : flat [⟨none, 0, 0, []⟩, ⟨A, n, c, b⟩] = b := by simp [flat]
    have hfl2 : b.length = n := hbl
    have HFL := Lib.hid hflat
    have HFL2 := Lib.hid hfl2
    clear hflat hfl2 hb hbl
    go_wp2_with fail
    go_region_held3 (fun w' => w'.cell? ⟨d, 2, none⟩ = some (.map (some m)) ∧ w'.cell? ⟨w.heap.size, 1, none⟩ = some (.int .i64 0) ∧ w'.cell? ⟨w.heap.size, 2, none⟩ = some (.slice none 0 0))
      (first | go_keep)
      (first
        | (go_at_call 68
           refine (concat_any _ 2 2 [⟨none, 0, 0, []⟩, ⟨A, n, c, b⟩] _ (rd_two w1 31 ⟨none, 0, 0, []⟩ ⟨A, n, c, b⟩).drew ?_ (by rw [HFL.out, HFL2.out]; omega) (by omega)).mono ?_
           · intro x hx
             simp only [List.mem_cons, List.not_mem_nil, or_false] at hx
             rcases hx with rfl | rfl
             · exact Rd.nil _ _
             · exact (rA.alloc _).drew
           rw [HFL.out, HFL2.out]
           rintro e w2 ⟨A2, cc2, rfl, ho2, hb2⟩
           have hm2 : Mod Non w1 w2 := (((Mod.refl Non w1).alloc _).drew).trans0 (Mod.of_below hb2)
           have c22 := hm2.cell c21 (fun h => h)
           have b12 := hm2.cell b1 (fun h => h)
           have b22 := hm2.cell b2 (fun h => h))
        | (have _t := hm2
           obtain ⟨w3, hrun, hp3, hm3⟩ := MapAt.run_put (P := Tryz.prog) strKey (HA1.out.map.mod0' hm2) Tryz.underlying61 Tryz.underlying9 nm (.agg #[.string nm, .int .i64 0, .slice A2 n cc2])
           rw [hrun]
           clear hrun
           have c23 := hm3.cell c22 (p := ⟨d, 2, none⟩) (fun e => HA1.out.dm e)
           have b13 := hm3.cell b12 (p := ⟨w.heap.size, 1, none⟩) (fun e => by have := HA.out.map.lt; simp only at e; omega)
           have b23 := hm3.cell b22 (p := ⟨w.heap.size, 2, none⟩) (fun e => by have := HA.out.map.lt; simp only at e; omega)
           simp only [Result.andThen, Oper.upon]))
    go_wp2_with fail
    go_ret
    have h12 : w1.heap.size ≤ w2.heap.size := hm2.size
    have h23 : w2.heap.size ≤ w3.heap.size := hm3.size
    have ho3 := own_mod ho2 hm3 (fun b hb e => by
      have h1 := (ho2.lt b hb).1
      have h2 := HA1.out.map.lt
      simp only [World.size_drew, World.size_alloc] at h1
      omega)
    have hfl : FlAt w3 (fun k => G k ∨ (w1.heap.size ≤ k ∧ k < w3.heap.size)) (nm, .agg #[.string nm, .int .i64 0, .slice A2 n cc2]) ⟨nm, 0, b⟩ := by
      obtain ⟨A9, c9, e9, h91, h92⟩ := own_slice ho3
      injection e9 with e91 e92 e93
      subst e91 e93
      refine ⟨rfl, A2, cc2, by rw [HFL2.out]; rfl, by rw [HFL2.out]; exact Rd.of_own ho3, by rw [HFL2.out]; exact h91, by simpa [maxLen] using h92, fun b' hb' => .inr ?_⟩
      have h1 := ho3.lt b' (by cases A2 <;> exact hb')
      simp only [World.size_drew, World.size_alloc] at h1
      omega
    have hA3 := (HA1.out.mod0 hm2).stored (f := ⟨nm, 0, b⟩) (B := w1.heap.size) hp3 hm3 (fun k hk => .inl hk) hfl (fun k hk => hk.imp id fun h => h.1) HA1.out.blk.lt HA1.out.map.lt
    rw [spendD_files] at hA3
    refine ⟨rfl, dk_fin (by rw [← HD'.out]; exact hA3) hFd hFm hFp hFl (fun k hk => ?_) ?_ HA.out.lay.lt⟩
    · rcases hk with hk | hk
      · exact .inl (hGF k hk)
      · exact .inr ⟨by omega, hk.2⟩
    · refine ((((Mod.refl F w).alloc _).trans HM1.out (fun k hk => by subst hk; exact .inl hFd)).trans0 hm2).trans hm3 (fun k hk => by subst hk; exact .inl hFm)
  · have HD' : Hid (spendD D (16 + nm.size + n) = D') := by
      have := HD.out
      rwa [if_neg hE] at this
    have hEb : (E == 0) = false := by simp [hE]
    clear HD hE
    go_wp2_with fail
    go_ret
    refine ⟨rfl, dk_fin (by rw [← HD'.out]; exact HA1.out) hFd hFm hFp hFl (fun k hk => .inl (hGF k hk)) ?_ HA.out.lay.lt⟩
    exact ((Mod.refl F w).alloc _).trans HM1.out (fun k hk => by subst hk; exact .inl hFd)

set_option maxRecDepth 100000 in
set_option maxHeartbeats 1000000 in
theorem append_bad (F : Nat → Prop) (d : Nat) (D : Dk) (nm : ByteArray) (A : Option Addr) (n c : Nat) (w : World) (h : DiskIs w F d D) (hs : nm.size ≤ 9223372036854775807) (E : Int)
    (hn : named nm = true ∧ n ≤ 4096 ∧ D.off = true ∧ E = 5 ∨ named nm = true ∧ 4096 < n ∧ E = 1 ∨ named nm = false ∧ E = 1) :
    Calls Tryz.prog 35 #[.pointer (some ⟨d, 0, none⟩), .string nm, .slice A n c] w (DkPost F d D (.int .i64 E) w) := by
  have HH := Lib.hid h
  have hP : ∀ w', w = w' → DkPost F d D (.int .i64 E) w (.returned (.int .i64 E)) w' := fun w' e => by
    subst e
    exact ⟨rfl, F, HH.out, Mod.refl _ _, fun k hk => .inl hk⟩
  obtain ⟨G, m, kvs, hA, hFd, hFm, hGF, hFp, hFl⟩ := h
  have HA := Lib.hid hA
  have HP := Lib.hid hP
  clear hA hP
  rcases hn with ⟨hn, hl, hoff, rfl⟩ | ⟨hn, hl, rfl⟩ | ⟨hn, rfl⟩
  · have HN := Lib.hid hn
    have HR : Hid (rightE true D = 5) := by show rightE true D = 5; simp [rightE, hoff]
    have hlb : decide ((n : Int) ≤ 4096) = true := by simp; omega
    clear hn hoff
    go_enter Tryz.func35, Tryz.ntmps35
    go_wp2_with (first
      | (go_at_call 71; refine (named_any nm _ (by omega)).mono ?_; rintro e w' ⟨rfl, rfl⟩; rw [HN.out])
      | (go_at_call 70; refine (right_any true G d m kvs D _ HA.out).mono ?_; rintro e w' ⟨rfl, rfl⟩; rw [HR.out]))
    go_ret
    exact HP.out _ rfl
  · have HN := Lib.hid hn
    have HR : Hid (rightE false D = 1) := rfl
    have hlb : decide ((n : Int) ≤ 4096) = false := by simp; omega
    clear hn
    go_enter Tryz.func35, Tryz.ntmps35
    go_wp2_with (first
      | (go_at_call 71; refine (named_any nm _ (by omega)).mono ?_; rintro e w' ⟨rfl, rfl⟩; rw [HN.out])
      | (go_at_call 70; refine (right_any false G d m kvs D _ HA.out).mono ?_; rintro e w' ⟨rfl, rfl⟩; rw [HR.out]))
    go_ret
    exact HP.out _ rfl
  · have HN := Lib.hid hn
    have HR : Hid (rightE false D = 1) := rfl
    clear hn
    go_enter Tryz.func35, Tryz.ntmps35
    go_wp2_with (first
      | (go_at_call 71; refine (named_any nm _ (by omega)).mono ?_; rintro e w' ⟨rfl, rfl⟩; rw [HN.out])
      | (go_at_call 70; refine (right_any false G d m kvs D _ HA.out).mono ?_; rintro e w' ⟨rfl, rfl⟩; rw [HR.out]))
    go_ret
    exact HP.out _ rfl

/-- (*Disk).Append. -/
theorem append_any (F : Nat → Prop) (d : Nat) (D : Dk) (nm : ByteArray) (A : Option Addr) (n c : Nat) (b : List UInt8) (w : World) (h : DiskIs w F d D) (ok : DkOk D) (hb : RdO w F A n (by8 b)) (hs : nm.size ≤ 9223372036854775807) :
    Calls Tryz.prog 35 #[.pointer (some ⟨d, 0, none⟩), .string nm, .slice A n c] w (DkPost F d (appendD D nm b) (.int .i64 (appendE D nm b)) w) := by
  have hbl : b.length = n := by simpa using hb.1.1
  by_cases hn : named nm = true
  · by_cases hl : n ≤ 4096
    · by_cases hoff : D.off = true
      · have h1 : appendE D nm b = 5 := by simp [appendE, hn, hbl, hl, hoff]
        have h2 : appendD D nm b = D := by simp [appendD, hoff]
        rw [h1, h2]
        exact append_bad F d D nm A n c w h hs 5 (.inl ⟨hn, hl, hoff, rfl⟩)
      · have hoff' : D.off = false := by simpa using hoff
        cases hf : findF D.files nm with
        | none =>
          have hm : moreA D nm b.length = 16 + nm.size + n := by simp [moreA, hf, hbl]
          have h1 : appendE D nm b = spendE D (16 + nm.size + n) := by unfold appendE; rw [if_pos ⟨hn, by omega⟩, if_neg hoff, hm]
          have h2 : appendD D nm b = if spendE D (16 + nm.size + n) = 0 then { spendD D (16 + nm.size + n) with files := putF D.files ⟨nm, 0, b⟩ } else spendD D (16 + nm.size + n) := by
            unfold appendD fileA; rw [if_pos ⟨hn, by omega, hoff'⟩, hm, hf]
          rw [h1, h2]
          exact append_new F d D nm A n c b w h ok hb hn hl hoff' hf _ _ rfl rfl
        | some f =>
          have hm : moreA D nm b.length = n := by simp [moreA, hf, hbl]
          have h1 : appendE D nm b = spendE D n := by unfold appendE; rw [if_pos ⟨hn, by omega⟩, if_neg hoff, hm]
          have h2 : appendD D nm b = if spendE D n = 0 then { spendD D n with files := putF D.files ⟨nm, f.safe, f.bytes ++ b⟩ } else spendD D n := by
            unfold appendD fileA; rw [if_pos ⟨hn, by omega, hoff'⟩, hm, hf]
          rw [h1, h2]
          exact append_has F d D nm A n c b f w h ok hb hn hl hoff' hf _ _ rfl rfl
    · have h1 : appendE D nm b = 1 := by unfold appendE; rw [if_neg (fun h => by omega)]
      have h2 : appendD D nm b = D := by unfold appendD; rw [if_neg (fun h => by omega)]
      rw [h1, h2]
      exact append_bad F d D nm A n c w h hs 1 (.inr (.inl ⟨hn, by omega, rfl⟩))
  · have h1 : appendE D nm b = 1 := by unfold appendE; rw [if_neg (fun h => hn h.1)]
    have h2 : appendD D nm b = D := by unfold appendD; rw [if_neg (fun h => hn h.1)]
    rw [h1, h2]
    exact append_bad F d D nm A n c w h hs 1 (.inr (.inr ⟨by simpa using hn, rfl⟩))

end Go.Proofs.YtgdamcimpgapgaaGreatDoor
