/- disk: right, Append. -/
import Derived.Test.YtdpjnpjmokncdaaGreatDoorB05
import Derived.Test.YtdpjnpjmokncdaaGreatDoorB09
import Derived.Deep.RegionHeld3
import Derived.Test.YtdpjnpjmokncdaaGreatDoorB07
namespace Go.Proofs.YtdpjnpjmokncdaaGreatDoor
open Go.RowKit

def rightE (b : Bool) (D : Dk) : Int := if b = true then if D.off = true then 5 else 0 else 1

set_option maxRecDepth 100000 in
set_option maxHeartbeats 400000 in
theorem right_any (b : Bool) (G : Nat → Prop) (d m : Nat) (kvs : List (ByteArray × Value)) (D : Dk) (w : World) (h : DkAt w G d m kvs D) :
    Calls Tryz.prog 51 #[.pointer (some ⟨d, 0, none⟩), .bool b] w fun e w' => e = .returned (.int .i64 (rightE b D)) ∧ w = w' := by
  have c2 : w.cell? ⟨d, 2, none⟩ = some (.map (some m)) := h.blk.cell 2
  have c5 : w.cell? ⟨d, 5, none⟩ = some (.bool D.off) := h.blk.cell 5
  clear h
  unfold rightE
  generalize D.off = off at *
  cases b with
  | false =>
    go_enter Tryz.func51, Tryz.ntmps51
    go_wp2_with fail
    go_ret
    exact ⟨rfl, rfl⟩
  | true =>
    cases off
    all_goals
      go_enter Tryz.func51, Tryz.ntmps51
      go_wp2_with (go_at_call 48; refine (made_yes d m _ c2).mono ?_; rintro e w' ⟨rfl, rfl⟩)
      go_ret
      exact ⟨rfl, rfl⟩

/-- how a call on the disk ends. -/
def DkPost (F : Nat → Prop) (d : Nat) (D' : Dk) (v : Value) (w : World) (e : Ending) (w' : World) : Prop :=
  e = .returned v ∧ ∃ F', DiskIs w' F' d D' ∧ Mod F w w' ∧ ∀ k, F' k → F k ∨ w.heap.size ≤ k

def moreA (D : Dk) (nm : ByteArray) (n : Nat) : Int := if (findF D.files nm).isSome then (n : Int) else 16 + nm.size + n
def fileA (D : Dk) (nm : ByteArray) (b : List UInt8) : Fl := match findF D.files nm with
  | some f => ⟨nm, f.safe, f.bytes ++ b⟩
  | none => ⟨nm, 0, b⟩
def appendE (D : Dk) (nm : ByteArray) (b : List UInt8) : Int :=
  if named nm = true ∧ b.length ≤ 4096 then if D.off = true then 5 else spendE D (moreA D nm b.length) else 1
def appendD (D : Dk) (nm : ByteArray) (b : List UInt8) : Dk :=
  if named nm = true ∧ b.length ≤ 4096 ∧ D.off = false then
    if spendE D (moreA D nm b.length) = 0 then { spendD D (moreA D nm b.length) with files := putF D.files (fileA D nm b) } else spendD D (moreA D nm b.length)
  else D

theorem zeroFile (w : World) : (zeroValue 58).run Tryz.prog w = .ok (.agg #[.string ⟨#[]⟩, .int .i64 0, .slice none 0 0]) w := by kernel_rfl

theorem find_cost {k : ByteArray} {f : Fl} : ∀ {fs : List Fl}, findF fs k = some f → costF f ≤ usedF fs
  | [], h => by cases h
  | g :: r, h => by
    have hp : ∀ l : List Fl, 0 ≤ usedF l := fun l => by
      induction l with
      | nil => simp [usedF]
      | cons a l ih => simp only [usedF, costF]; omega
    rw [findF] at h
    split at h
    · cases h
      have := hp r
      simp only [usedF]; omega
    · have := find_cost h
      have h2 : 0 ≤ costF g := by unfold costF; omega
      simp only [usedF]; omega
theorem find_name {k : ByteArray} {f : Fl} : ∀ {fs : List Fl}, findF fs k = some f → f.name = k
  | [], h => by cases h
  | g :: r, h => by
    rw [findF] at h
    split at h
    · cases h; assumption
    · exact find_name h

set_option maxRecDepth 100000 in
set_option maxHeartbeats 1000000 in
theorem append_has (F : Nat → Prop) (d : Nat) (D : Dk) (nm : ByteArray) (A : Option Addr) (n c : Nat) (b : List UInt8) (f : Fl) (w : World) (h : DiskIs w F d D) (ok : DkOk D) (hb : RdO w F A n (by8 b))
    (hn : named nm = true) (hl : n ≤ 4096) (hoff : D.off = false) (hf : findF D.files nm = some f) (D' : Dk) (E : Int) (hE : spendE D n = E)
    (hD : (if E = 0 then { spendD D n with files := putF D.files ⟨nm, f.safe, f.bytes ++ b⟩ } else spendD D n) = D') :
    Calls Tryz.prog 17 #[.pointer (some ⟨d, 0, none⟩), .string nm, .slice A n c] w (DkPost F d D' (.int .i64 E) w) := by
  have HD := Lib.hid hD
  have HE := Lib.hid hE
  clear hD hE
  obtain ⟨G, m, kvs, hA, hFd, hFm, hGF, hFp, hFl⟩ := h
  have hbl : b.length = n := by simpa using hb.1.1
  obtain ⟨v, hlk, hv⟩ := hA.files.some_ nm hf
  obtain ⟨hv1, Af, cf, rfl, hrf, hcf1, hcf2, hfG⟩ := hv
  have hfn : f.name = nm := find_name hf
  have hcost := find_cost hf
  have hflen : f.bytes.length ≤ 1099511627776 := by
    have h1 := ok.us; have h2 := ok.u1; have h3 := ok.n1
    unfold costF at hcost
    omega
  have hnsz : nm.size ≤ 100 := by
    unfold named at hn
    simp at hn
    omega
  have HN := Lib.hid hn
  have HOFF := Lib.hid hoff
  have HFN := Lib.hid hfn
  have HLK := Lib.hid hlk
  have HA := Lib.hid hA
  have c2 : w.cell? ⟨d, 2, none⟩ = some (.map (some m)) := hA.blk.cell 2
  have hdl := hA.blk.lt
  have HR : Hid (rightE true D = 0) := by show rightE true D = 0; simp [rightE, hoff]
  rw [hfn] at hlk hv1
  have HV : Hid ((if true = true then Value.tuple #[(lookKV kvs nm).getD (.agg #[.string ⟨#[]⟩, .int .i64 0, .slice none 0 0]), .bool (lookKV kvs nm).isSome] else (lookKV kvs nm).getD (.agg #[.string ⟨#[]⟩, .int .i64 0, .slice none 0 0])) = Value.tuple #[.agg #[.string nm, .int .i64 (f.safe : Int), .slice Af f.bytes.length cf], .bool true]) := by
    rw [hlk]; rfl
  have hlb : decide ((n : Int) ≤ 4096) = true := by simp; omega
  clear hn hoff hfn hlk hA hv1 hf hcost
  go_enter Tryz.func17, Tryz.ntmps17
  go_wp2_with (first
    | (go_at_call 52; refine (named_any nm _ (by omega)).mono ?_; rintro e w' ⟨rfl, rfl⟩; rw [HN.out])
    | (go_at_call 51; refine (right_any true G d m kvs D _ HA.out).mono ?_; rintro e w' ⟨rfl, rfl⟩; rw [HR.out])
    | (at_lookup; refine wpList_look _ rfl (.tmp 28) (.tmp 29) true rfl strKey HA.out.map Tryz.underlying77 Tryz.underlying9 (zeroFile _) nm rfl rfl _ HV.out ?_))
  have c2' : (w.alloc (.cells #[.string nm, .int .i64 (f.safe : Int), .slice Af f.bytes.length cf] 58)).cell? ⟨d, 2, none⟩ = some (.map (some m)) := World.cell?_alloc_lt _ _ _ hdl |>.trans c2
  refine (spend_any G d m kvs D (n : Int) _ (HA.out.mod0 ((Mod.refl Non w).alloc _)) ok (by have := ok.u0; omega)).mono ?_
  rintro e w1 ⟨rfl, hA1, hm1⟩
  rw [HE.out]
  have HA1 := Lib.hid hA1
  have HM1 := Lib.hid hm1
  have hbox : Blk w1 w.heap.size 58 #[.string nm, .int .i64 (f.safe : Int), .slice Af f.bytes.length cf] := (Blk.new w _ _).mod hm1 (by omega)
  have hsz : w.heap.size < w1.heap.size := hbox.lt
  have c21 : w1.cell? ⟨d, 2, none⟩ = some (.map (some m)) := hA1.blk.cell 2
  have b1 : w1.cell? ⟨w.heap.size, 1, none⟩ = some (.int .i64 (f.safe : Int)) := hbox.cell 1
  have b2 : w1.cell? ⟨w.heap.size, 2, none⟩ = some (.slice Af f.bytes.length cf) := hbox.cell 2
  clear hA1 hm1 c2 c2'
  by_cases hE : E = 0
  · have HD' : Hid ({ spendD D n with files := putF D.files ⟨nm, f.safe, f.bytes ++ b⟩ } = D') := by
      have := HD.out
      rwa [if_pos hE] at this
    subst hE
    clear HD
    have rA : Rd w1 A n (by8 b) := (hb.1.alloc _).mod HM1.out (fun hn b hb' e => hb.2 hn b hb' (by subst e; exact hFd))
    have rF : Rd w1 Af f.bytes.length (by8 f.bytes) := (hrf.alloc _).mod HM1.out (fun _ b hb' e => by
      have h1 := (HA.out.gd b (hfG b hb')).1
      exact h1 e)
    have hflat : flat [⟨Af, f.bytes.length, cf, f.bytes⟩, ⟨A, n, c, b⟩] = f.bytes ++ b := by simp [flat]
    have hfl2 : (f.bytes ++ b).length = f.bytes.length + n := by simp [hbl]
    have HFL := Lib.hid hflat
    have HFL2 := Lib.hid hfl2
    clear hflat hfl2 hb hrf hbl
    go_wp2_with fail
    go_region_held3 (fun w' => w'.cell? ⟨d, 2, none⟩ = some (.map (some m)) ∧ w'.cell? ⟨w.heap.size, 1, none⟩ = some (.int .i64 (f.safe : Int)) ∧ w'.cell? ⟨w.heap.size, 2, none⟩ = some (.slice Af f.bytes.length cf))
      (first | go_keep)
      (first
        | (go_at_call 55
           refine (concat_any _ 2 2 [⟨Af, f.bytes.length, cf, f.bytes⟩, ⟨A, n, c, b⟩] _ (rd_two w1 44 ⟨Af, f.bytes.length, cf, f.bytes⟩ ⟨A, n, c, b⟩).drew ?_ (by rw [HFL.out, HFL2.out]; omega) (by omega)).mono ?_
           · intro x hx
             simp only [List.mem_cons, List.not_mem_nil, or_false] at hx
             rcases hx with rfl | rfl
             · exact (rF.alloc _).drew
             · exact (rA.alloc _).drew
           rw [HFL.out, HFL2.out]
           rintro e w2 ⟨A2, cc2, rfl, ho2, hb2⟩
           have hm2 : Mod Non w1 w2 := (((Mod.refl Non w1).alloc _).drew).trans0 (Mod.of_below hb2)
           have c22 := hm2.cell c21 (fun h => h)
           have b12 := hm2.cell b1 (fun h => h)
           have b22 := hm2.cell b2 (fun h => h))
        | (have _t := hm2
           obtain ⟨w3, hrun, hp3, hm3⟩ := MapAt.run_put (P := Tryz.prog) strKey (HA1.out.map.mod0' hm2) Tryz.underlying77 Tryz.underlying9 nm (.agg #[.string nm, .int .i64 (f.safe : Int), .slice A2 (f.bytes.length + n) cc2])
           rw [hrun]
           clear hrun
           have c23 := hm3.cell c22 (p := ⟨d, 2, none⟩) (fun e => HA1.out.dm e)
           have b13 := hm3.cell b12 (p := ⟨w.heap.size, 1, none⟩) (fun e => by have := HA.out.map.lt; simp only at e; omega)
           have b23 := hm3.cell b22 (p := ⟨w.heap.size, 2, none⟩) (fun e => by have := HA.out.map.lt; simp only at e; omega)
           simp only [Result.andThen, Oper.upon]))
    go_wp2_with fail
    go_ret
    have h12 : w1.heap.size ≤ w2.heap.size := hm2.size
    have h23 : w2.heap.size ≤ w3.heap.size := hm3.size
    have ho3 := own_mod ho2 hm3 (fun b hb e => by
      have h1 := (ho2.lt b hb).1
      have h2 := HA1.out.map.lt
      simp only [World.size_drew, World.size_alloc] at h1
      omega)
    have hfl : FlAt w3 (fun k => G k ∨ (w1.heap.size ≤ k ∧ k < w3.heap.size)) (nm, .agg #[.string nm, .int .i64 (f.safe : Int), .slice A2 (f.bytes.length + n) cc2]) ⟨nm, f.safe, f.bytes ++ b⟩ := by
      obtain ⟨A9, c9, e9, h91, h92⟩ := own_slice ho3
      injection e9 with e91 e92 e93
      subst e91 e93
      refine ⟨rfl, A2, cc2, by rw [HFL2.out], by rw [HFL2.out]; exact Rd.of_own ho3, by rw [HFL2.out]; exact h91, by simpa [maxLen] using h92, fun b' hb' => .inr ?_⟩
      have h1 := ho3.lt b' (by cases A2 <;> exact hb')
      simp only [World.size_drew, World.size_alloc] at h1
      omega
    have hA3 := (HA1.out.mod0 hm2).stored (f := ⟨nm, f.safe, f.bytes ++ b⟩) (B := w1.heap.size) hp3 hm3 (fun k hk => .inl hk) hfl (fun k hk => hk.imp id fun h => h.1) HA1.out.blk.lt HA1.out.map.lt
    rw [spendD_files] at hA3
    refine ⟨rfl, dk_fin (by rw [← HD'.out]; exact hA3) hFd hFm hFp hFl (fun k hk => ?_) ?_ HA.out.lay.lt⟩
    · rcases hk with hk | hk
      · exact .inl (hGF k hk)
      · exact .inr ⟨by omega, hk.2⟩
    · refine ((((Mod.refl F w).alloc _).trans HM1.out (fun k hk => by subst hk; exact .inl hFd)).trans0 hm2).trans hm3 (fun k hk => by subst hk; exact .inl hFm)
  · have HD' : Hid (spendD D n = D') := by
      have := HD.out
      rwa [if_neg hE] at this
    have hEb : (E == 0) = false := by simp [hE]
    clear HD hE
    go_wp2_with fail
    go_ret
    refine ⟨rfl, dk_fin (by rw [← HD'.out]; exact HA1.out) hFd hFm hFp hFl (fun k hk => .inl (hGF k hk)) ?_ HA.out.lay.lt⟩
    exact ((Mod.refl F w).alloc _).trans HM1.out (fun k hk => by subst hk; exact .inl hFd)

set_option maxRecDepth 100000 in
set_option maxHeartbeats 1000000 in
theorem append_new (F : Nat → Prop) (d : Nat) (D : Dk) (nm : ByteArray) (A : Option Addr) (n c : Nat) (b : List UInt8) (w : World) (h : DiskIs w F d D) (ok : DkOk D) (hb : RdO w F A n (by8 b))
    (hn : named nm = true) (hl : n ≤ 4096) (hoff : D.off = false) (hf : findF D.files nm = none) (D' : Dk) (E : Int) (hE : spendE D (16 + nm.size + n) = E)
    (hD : (if E = 0 then { spendD D (16 + nm.size + n) with files := putF D.files ⟨nm, 0, b⟩ } else spendD D (16 + nm.size + n)) = D') :
    Calls Tryz.prog 17 #[.pointer (some ⟨d, 0, none⟩), .string nm, .slice A n c] w (DkPost F d D' (.int .i64 E) w) := by
  have HD := Lib.hid hD
  have HE := Lib.hid hE
  clear hD hE
  obtain ⟨G, m, kvs, hA, hFd, hFm, hGF, hFp, hFl⟩ := h
  have hbl : b.length = n := by simpa using hb.1.1
  have hlk := hA.files.none_ nm hf
  have hnsz : nm.size ≤ 100 := by
    unfold named at hn
    simp at hn
    omega
  have HN := Lib.hid hn
  have HOFF := Lib.hid hoff
  have HLK := Lib.hid hlk
  have HA := Lib.hid hA
  have c2 : w.cell? ⟨d, 2, none⟩ = some (.map (some m)) := hA.blk.cell 2
  have hdl := hA.blk.lt
  have HR : Hid (rightE true D = 0) := by show rightE true D = 0; simp [rightE, hoff]
  have HV : Hid ((if true = true then Value.tuple #[(lookKV kvs nm).getD (.agg #[.string ⟨#[]⟩, .int .i64 0, .slice none 0 0]), .bool (lookKV kvs nm).isSome] else (lookKV kvs nm).getD (.agg #[.string ⟨#[]⟩, .int .i64 0, .slice none 0 0])) = Value.tuple #[.agg #[.string ⟨#[]⟩, .int .i64 0, .slice none 0 0], .bool false]) := by
    rw [hlk]; rfl
  have hlb : decide ((n : Int) ≤ 4096) = true := by simp; omega
  clear hn hoff hlk hA hf
  go_enter Tryz.func17, Tryz.ntmps17
  go_wp2_with (first
    | (go_at_call 52; refine (named_any nm _ (by omega)).mono ?_; rintro e w' ⟨rfl, rfl⟩; rw [HN.out])
    | (go_at_call 51; refine (right_any true G d m kvs D _ HA.out).mono ?_; rintro e w' ⟨rfl, rfl⟩; rw [HR.out])
    | (at_lookup; refine wpList_look _ rfl (.tmp 28) (.tmp 29) true rfl strKey HA.out.map Tryz.underlying77 Tryz.underlying9 (zeroFile _) nm rfl rfl _ HV.out ?_)
    | (go_at_call 53; refine (cost_any nm n _ (by omega) (by omega)).mono ?_; rintro e w' ⟨rfl, rfl⟩))
  have c2' : (w.alloc (.cells #[.string ⟨#[]⟩, .int .i64 0, .slice none 0 0] 58)).cell? ⟨d, 2, none⟩ = some (.map (some m)) := World.cell?_alloc_lt _ _ _ hdl |>.trans c2
  refine (spend_any G d m kvs D (16 + nm.size + n) _ (HA.out.mod0 ((Mod.refl Non w).alloc _)) ok (by have := ok.u0; omega)).mono ?_
  rintro e w1 ⟨rfl, hA1, hm1⟩
  rw [HE.out]
  have HA1 := Lib.hid hA1
  have HM1 := Lib.hid hm1
  have hbox : Blk w1 w.heap.size 58 #[.string ⟨#[]⟩, .int .i64 0, .slice none 0 0] := (Blk.new w _ _).mod hm1 (by omega)
  have hsz : w.heap.size < w1.heap.size := hbox.lt
  have c21 : w1.cell? ⟨d, 2, none⟩ = some (.map (some m)) := hA1.blk.cell 2
  have b1 : w1.cell? ⟨w.heap.size, 1, none⟩ = some (.int .i64 0) := hbox.cell 1
  have b2 : w1.cell? ⟨w.heap.size, 2, none⟩ = some (.slice none 0 0) := hbox.cell 2
  clear hA1 hm1 c2 c2'
  by_cases hE : E = 0
  · have HD' : Hid ({ spendD D (16 + nm.size + n) with files := putF D.files ⟨nm, 0, b⟩ } = D') := by
      have := HD.out
      rwa [if_pos hE] at this
    subst hE
    clear HD
    have rA : Rd w1 A n (by8 b) := (hb.1.alloc _).mod HM1.out (fun hn b hb' e => hb.2 hn b hb' (by subst e; exact hFd))
    have hflat : flat [⟨none, 0, 0, []⟩, ⟨A, n, c, b⟩] = b := by simp [flat]
    have hfl2 : b.length = n := hbl
    have HFL := Lib.hid hflat
    have HFL2 := Lib.hid hfl2
    clear hflat hfl2 hb hbl
    go_wp2_with fail
    go_region_held3 (fun w' => w'.cell? ⟨d, 2, none⟩ = some (.map (some m)) ∧ w'.cell? ⟨w.heap.size, 1, none⟩ = some (.int .i64 0) ∧ w'.cell? ⟨w.heap.size, 2, none⟩ = some (.slice none 0 0))
      (first | go_keep)
      (first
        | (go_at_call 55
           refine (concat_any _ 2 2 [⟨none, 0, 0, []⟩, ⟨A, n, c, b⟩] _ (rd_two w1 44 ⟨none, 0, 0, []⟩ ⟨A, n, c, b⟩).drew ?_ (by rw [HFL.out, HFL2.out]; omega) (by omega)).mono ?_
           · intro x hx
             simp only [List.mem_cons, List.not_mem_nil, or_false] at hx
             rcases hx with rfl | rfl
             · exact Rd.nil _ _
             · exact (rA.alloc _).drew
           rw [HFL.out, HFL2.out]
           rintro e w2 ⟨A2, cc2, rfl, ho2, hb2⟩
           have hm2 : Mod Non w1 w2 := (((Mod.refl Non w1).alloc _).drew).trans0 (Mod.of_below hb2)
           have c22 := hm2.cell c21 (fun h => h)
           have b12 := hm2.cell b1 (fun h => h)
           have b22 := hm2.cell b2 (fun h => h))
        | (have _t := hm2
           obtain ⟨w3, hrun, hp3, hm3⟩ := MapAt.run_put (P := Tryz.prog) strKey (HA1.out.map.mod0' hm2) Tryz.underlying77 Tryz.underlying9 nm (.agg #[.string nm, .int .i64 0, .slice A2 n cc2])
           rw [hrun]
           clear hrun
           have c23 := hm3.cell c22 (p := ⟨d, 2, none⟩) (fun e => HA1.out.dm e)
           have b13 := hm3.cell b12 (p := ⟨w.heap.size, 1, none⟩) (fun e => by have := HA.out.map.lt; simp only at e; omega)
           have b23 := hm3.cell b22 (p := ⟨w.heap.size, 2, none⟩) (fun e => by have := HA.out.map.lt; simp only at e; omega)
           simp only [Result.andThen, Oper.upon]))
    go_wp2_with fail
    go_ret
    have h12 : w1.heap.size ≤ w2.heap.size := hm2.size
    have h23 : w2.heap.size ≤ w3.heap.size := hm3.size
    have ho3 := own_mod ho2 hm3 (fun b hb e => by
      have h1 := (ho2.lt b hb).1
      have h2 := HA1.out.map.lt
      simp only [World.size_drew, World.size_alloc] at h1
      omega)
    have hfl : FlAt w3 (fun k => G k ∨ (w1.heap.size ≤ k ∧ k < w3.heap.size)) (nm, .agg #[.string nm, .int .i64 0, .slice A2 n cc2]) ⟨nm, 0, b⟩ := by
      obtain ⟨A9, c9, e9, h91, h92⟩ := own_slice ho3
      injection e9 with e91 e92 e93
      subst e91 e93
      refine ⟨rfl, A2, cc2, by rw [HFL2.out]; rfl, by rw [HFL2.out]; exact Rd.of_own ho3, by rw [HFL2.out]; exact h91, by simpa [maxLen] using h92, fun b' hb' => .inr ?_⟩
      have h1 := ho3.lt b' (by cases A2 <;> exact hb')
      simp only [World.size_drew, World.size_alloc] at h1
      omega
    have hA3 := (HA1.out.mod0 hm2).stored (f := ⟨nm, 0, b⟩) (B := w1.heap.size) hp3 hm3 (fun k hk => .inl hk) hfl (fun k hk => hk.imp id fun h => h.1) HA1.out.blk.lt HA1.out.map.lt
    rw [spendD_files] at hA3
    refine ⟨rfl, dk_fin (by rw [← HD'.out]; exact hA3) hFd hFm hFp hFl (fun k hk => ?_) ?_ HA.out.lay.lt⟩
    · rcases hk with hk | hk
      · exact .inl (hGF k hk)
      · exact .inr ⟨by omega, hk.2⟩
    · refine ((((Mod.refl F w).alloc _).trans HM1.out (fun k hk => by subst hk; exact .inl hFd)).trans0 hm2).trans hm3 (fun k hk => by subst hk; exact .inl hFm)
  · have HD' : Hid (spendD D (16 + nm.size + n) = D') := by
      have := HD.out
      rwa [if_neg hE] at this
    have hEb : (E == 0) = false := by simp [hE]
    clear HD hE
    go_wp2_with fail
    go_ret
    refine ⟨rfl, dk_fin (by rw [← HD'.out]; exact HA1.out) hFd hFm hFp hFl (fun k hk => .inl (hGF k hk)) ?_ HA.out.lay.lt⟩
    exact ((Mod.refl F w).alloc _).trans HM1.out (fun k hk => by subst hk; exact .inl hFd)

set_option maxRecDepth 100000 in
set_option maxHeartbeats 1000000 in
theorem append_bad (F : Nat → Prop) (d : Nat) (D : Dk) (nm : ByteArray) (A : Option Addr) (n c : Nat) (w : World) (h : DiskIs w F d D) (hs : nm.size ≤ 9223372036854775807) (E : Int)
    (hn : named nm = true ∧ n ≤ 4096 ∧ D.off = true ∧ E = 5 ∨ named nm = true ∧ 4096 < n ∧ E = 1 ∨ named nm = false ∧ E = 1) :
    Calls Tryz.prog 17 #[.pointer (some ⟨d, 0, none⟩), .string nm, .slice A n c] w (DkPost F d D (.int .i64 E) w) := by
  have HH := Lib.hid h
  have hP : ∀ w', w = w' → DkPost F d D (.int .i64 E) w (.returned (.int .i64 E)) w' := fun w' e => by
    subst e
    exact ⟨rfl, F, HH.out, Mod.refl _ _, fun k hk => .inl hk⟩
  obtain ⟨G, m, kvs, hA, hFd, hFm, hGF, hFp, hFl⟩ := h
  have HA := Lib.hid hA
  have HP := Lib.hid hP
  clear hA hP
  rcases hn with ⟨hn, hl, hoff, rfl⟩ | ⟨hn, hl, rfl⟩ | ⟨hn, rfl⟩
  · have HN := Lib.hid hn
    have HR : Hid (rightE true D = 5) := by show rightE true D = 5; simp [rightE, hoff]
    have hlb : decide ((n : Int) ≤ 4096) = true := by simp; omega
    clear hn hoff
    go_enter Tryz.func17, Tryz.ntmps17
    go_wp2_with (first
      | (go_at_call 52; refine (named_any nm _ (by omega)).mono ?_; rintro e w' ⟨rfl, rfl⟩; rw [HN.out])
      | (go_at_call 51; refine (right_any true G d m kvs D _ HA.out).mono ?_; rintro e w' ⟨rfl, rfl⟩; rw [HR.out]))
    go_ret
    exact HP.out _ rfl
  · have HN := Lib.hid hn
    have HR : Hid (rightE false D = 1) := rfl
    have hlb : decide ((n : Int) ≤ 4096) = false := by simp; omega
    clear hn
    go_enter Tryz.func17, Tryz.ntmps17
    go_wp2_with (first
      | (go_at_call 52; refine (named_any nm _ (by omega)).mono ?_; rintro e w' ⟨rfl, rfl⟩; rw [HN.out])
      | (go_at_call 51; refine (right_any false G d m kvs D _ HA.out).mono ?_; rintro e w' ⟨rfl, rfl⟩; rw [HR.out]))
    go_ret
    exact HP.out _ rfl
  · have HN := Lib.hid hn
    have HR : Hid (rightE false D = 1) := rfl
    clear hn
    go_enter Tryz.func17, Tryz.ntmps17
    go_wp2_with (first
      | (go_at_call 52; refine (named_any nm _ (by omega)).mono ?_; rintro e w' ⟨rfl, rfl⟩; rw [HN.out])
      | (go_at_call 51; refine (right_any false G d m kvs D _ HA.out).mono ?_; rintro e w' ⟨rfl, rfl⟩; rw [HR.out]))
    go_ret
    exact HP.out _ rfl

/-- (*Disk).Append. -/
theorem append_any (F : Nat → Prop) (d : Nat) (D : Dk) (nm : ByteArray) (A : Option Addr) (n c : Nat) (b : List UInt8) (w : World) (h : DiskIs w F d D) (ok : DkOk D) (hb : RdO w F A n (by8 b)) (hs : nm.size ≤ 9223372036854775807) :
    Calls Tryz.prog 17 #[.pointer (some ⟨d, 0, none⟩), .string nm, .slice A n c] w (DkPost F d (appendD D nm b) (.int .i64 (appendE D nm b)) w) := by
  have hbl : b.length = n := by simpa using hb.1.1
  by_cases hn : named nm = true
  · by_cases hl : n ≤ 4096
    · by_cases hoff : D.off = true
      · have h1 : appendE D nm b = 5 := by simp [appendE, hn, hbl, hl, hoff]
        have h2 : appendD D nm b = D := by simp [appendD, hoff]
        rw [h1, h2]
        exact append_bad F d D nm A n c w h hs 5 (.inl ⟨hn, hl, hoff, rfl⟩)
      · have hoff' : D.off = false := by simpa using hoff
        cases hf : findF D.files nm with
        | none =>
          have hm : moreA D nm b.length = 16 + nm.size + n := by simp [moreA, hf, hbl]
          have h1 : appendE D nm b = spendE D (16 + nm.size + n) := by unfold appendE; rw [if_pos ⟨hn, by omega⟩, if_neg hoff, hm]
          have h2 : appendD D nm b = if spendE D (16 + nm.size + n) = 0 then { spendD D (16 + nm.size + n) with files := putF D.files ⟨nm, 0, b⟩ } else spendD D (16 + nm.size + n) := by
            unfold appendD fileA; rw [if_pos ⟨hn, by omega, hoff'⟩, hm, hf]
          rw [h1, h2]
          exact append_new F d D nm A n c b w h ok hb hn hl hoff' hf _ _ rfl rfl
        | some f =>
          have hm : moreA D nm b.length = n := by simp [moreA, hf, hbl]
          have h1 : appendE D nm b = spendE D n := by unfold appendE; rw [if_pos ⟨hn, by omega⟩, if_neg hoff, hm]
          have h2 : appendD D nm b = if spendE D n = 0 then { spendD D n with files := putF D.files ⟨nm, f.safe, f.bytes ++ b⟩ } else spendD D n := by
            unfold appendD fileA; rw [if_pos ⟨hn, by omega, hoff'⟩, hm, hf]
          rw [h1, h2]
          exact append_has F d D nm A n c b f w h ok hb hn hl hoff' hf _ _ rfl rfl
    · have h1 : appendE D nm b = 1 := by unfold appendE; rw [if_neg (fun h => by omega)]
      have h2 : appendD D nm b = D := by unfold appendD; rw [if_neg (fun h => by omega)]
      rw [h1, h2]
      exact append_bad F d D nm A n c w h hs 1 (.inr (.inl ⟨hn, by omega, rfl⟩))
  · have h1 : appendE D nm b = 1 := by unfold appendE; rw [if_neg (fun h => hn h.1)]
    have h2 : appendD D nm b = D := by unfold appendD; rw [if_neg (fun h => hn h.1)]
    rw [h1, h2]
    exact append_bad F d D nm A n c w h hs 1 (.inr (.inr ⟨by simpa using hn, rfl⟩))

end Go.Proofs.YtdpjnpjmokncdaaGreatDoor

/- disk: New, Has, Free, Off, Read, Sync. -/
namespace Go.Proofs.YtdpjnpjmokncdaaGreatDoor
open Go.RowKit

def newD (n : Int) : Dk := { n := n, used := 0, files := [], done := 0, left := -1, off := false }
theorem newD_ok {n : Int} (h0 : 0 ≤ n) (h1 : n ≤ 1099511627776) : DkOk (newD n) :=
  ⟨h0, h1, Int.le_refl _, h0, by simp [newD], by simp [newD], rfl, by simp [newD], by simp [newD], by simp [newD]⟩

set_option maxRecDepth 100000 in
set_option maxHeartbeats 400000 in
theorem new_yes (n : Int) (w : World) (hL : Lay w) (h0 : 0 ≤ n) (h1 : n ≤ 1099511627776) :
    Calls Tryz.prog 10 #[.int .i64 n] w fun e w' => ∃ d F, e = .returned (.tuple #[.pointer (some ⟨d, 0, none⟩), .int .i64 0]) ∧ DiskIs w' F d (newD n) ∧ Below w.heap.size w w' ∧ ∀ k, F k → w.heap.size ≤ k := by
  have hmm := @run_makeMap Tryz.prog
  have HL := Lib.hid hL
  clear hL
  go_enter Tryz.func10, Tryz.ntmps10
  go_wp2
  go_ret2
  have hm : Mod Non w (w.alloc (.map #[] 0)) := (Mod.refl Non w).alloc _
  have hm2 : Mod Non (w.alloc (.map #[] 0)) ((w.alloc (.map #[] 0)).alloc (.cells #[.int .i64 n, .int .i64 0, .map (some w.heap.size), .int .i64 0, .int .i64 (-1), .bool false] 84)) := (Mod.refl Non _).alloc _
  have hlt := HL.out.lt
  refine ⟨w.heap.size + 1, fun k => k = w.heap.size ∨ k = w.heap.size + 1, rfl, ⟨fun _ => False, w.heap.size, [], ⟨?_, (MapAt.new _ _).mod0' hm2, trivial, by omega, fun _ h => h.elim, (HL.out.mod0 hm).mod0 hm2, by omega, by omega⟩, .inr rfl, .inl rfl, fun _ h => h.elim, by omega, fun k hk => by simp; omega⟩, ?_, fun k hk => by omega⟩
  · have := Blk.new (w.alloc (.map #[] 0)) 84 #[.int .i64 n, .int .i64 0, .map (some w.heap.size), .int .i64 0, .int .i64 (-1), .bool false]
    rw [World.size_alloc] at this
    exact this
  · exact ((Below.refl _ w).alloc (Nat.le_refl _) _).alloc (by simp) _

set_option maxRecDepth 100000 in
set_option maxHeartbeats 400000 in
theorem new_no (n : Int) (w : World) (h : n < 0 ∨ 1099511627776 < n) :
    Calls Tryz.prog 10 #[.int .i64 n] w fun e w' => e = .returned (.tuple #[.pointer none, .int .i64 1]) ∧ w = w' := by
  rcases h with h | h
  all_goals
    go_enter Tryz.func10, Tryz.ntmps10
    go_wp2
    go_ret2
    exact ⟨rfl, rfl⟩

/-- what a lookup of a file hands over. -/
def gotten (o : Option Value) : Value := .tuple #[o.getD (.agg #[.string ⟨#[]⟩, .int .i64 0, .slice none 0 0]), .bool o.isSome]
theorem gotten_is (o : Option Value) : (if true = true then Value.tuple #[o.getD (.agg #[.string ⟨#[]⟩, .int .i64 0, .slice none 0 0]), .bool o.isSome] else o.getD (.agg #[.string ⟨#[]⟩, .int .i64 0, .slice none 0 0])) = gotten o := rfl
/-- the file that is found, opened. -/
theorem found {w : World} {G : Nat → Prop} {d m : Nat} {kvs : List (ByteArray × Value)} {D : Dk} {nm : ByteArray} {f : Fl} (hA : DkAt w G d m kvs D) (hf : findF D.files nm = some f) :
    ∃ Af cf, gotten (lookKV kvs nm) = .tuple #[.agg #[.string nm, .int .i64 (f.safe : Int), .slice Af f.bytes.length cf], .bool true] ∧ Rd w Af f.bytes.length (by8 f.bytes) ∧ f.bytes.length ≤ cf ∧ cf ≤ 9223372036854775807 ∧ (∀ b, blkOf Af = some b → G b) ∧ f.name = nm := by
  obtain ⟨v, hlk, hv1, Af, cf, rfl, h3, h4, h5, h6⟩ := hA.files.some_ nm hf
  have hfn := find_name hf
  refine ⟨Af, cf, ?_, h3, h4, h5, h6, hfn⟩
  rw [hlk]
  simp only [gotten, Option.getD_some, Option.isSome_some, hfn]
theorem lost {w : World} {G : Nat → Prop} {d m : Nat} {kvs : List (ByteArray × Value)} {D : Dk} {nm : ByteArray} (hA : DkAt w G d m kvs D) (hf : findF D.files nm = none) :
    gotten (lookKV kvs nm) = .tuple #[.agg #[.string ⟨#[]⟩, .int .i64 0, .slice none 0 0], .bool false] := by
  rw [hA.files.none_ nm hf]; rfl

set_option maxRecDepth 100000 in
set_option maxHeartbeats 400000 in
theorem has_nil (nm : ByteArray) (w : World) :
    Calls Tryz.prog 24 #[.pointer none, .string nm] w fun e w' => e = .returned (.bool false) ∧ w = w' := by
  go_enter Tryz.func24, Tryz.ntmps24
  go_wp2_with (go_at_call 48; refine (made_no _).mono ?_; rintro e w' ⟨rfl, rfl⟩)
  go_ret
  exact ⟨rfl, rfl⟩

set_option maxRecDepth 100000 in
set_option maxHeartbeats 400000 in
theorem has_any (nm : ByteArray) (F : Nat → Prop) (d : Nat) (D : Dk) (w : World) (h : DiskIs w F d D) :
    Calls Tryz.prog 24 #[.pointer (some ⟨d, 0, none⟩), .string nm] w fun e w' => e = .returned (.bool (findF D.files nm).isSome) ∧ Mod Non w w' := by
  obtain ⟨G, m, kvs, hA, _⟩ := h
  have c2 : w.cell? ⟨d, 2, none⟩ = some (.map (some m)) := hA.blk.cell 2
  have HA := Lib.hid hA
  cases hf : findF D.files nm with
  | none =>
    have HV := Lib.hid (lost hA hf)
    clear hA hf
    go_enter Tryz.func24, Tryz.ntmps24
    go_wp2_with (first
      | (go_at_call 48; refine (made_yes d m _ c2).mono ?_; rintro e w' ⟨rfl, rfl⟩)
      | (at_lookup; refine wpList_look _ rfl (.tmp 14) (.tmp 15) true rfl strKey HA.out.map Tryz.underlying77 Tryz.underlying9 (zeroFile _) nm rfl rfl _ HV.out ?_))
    go_ret
    exact ⟨rfl, (Mod.refl _ _).alloc _⟩
  | some f =>
    obtain ⟨Af, cf, hg, _⟩ := found hA hf
    have HV := Lib.hid hg
    clear hA hf hg
    go_enter Tryz.func24, Tryz.ntmps24
    go_wp2_with (first
      | (go_at_call 48; refine (made_yes d m _ c2).mono ?_; rintro e w' ⟨rfl, rfl⟩)
      | (at_lookup; refine wpList_look _ rfl (.tmp 14) (.tmp 15) true rfl strKey HA.out.map Tryz.underlying77 Tryz.underlying9 (zeroFile _) nm rfl rfl _ HV.out ?_))
    go_ret
    exact ⟨rfl, (Mod.refl _ _).alloc _⟩

set_option maxRecDepth 100000 in
set_option maxHeartbeats 400000 in
theorem free_any (F : Nat → Prop) (d : Nat) (D : Dk) (w : World) (h : DiskIs w F d D) (ok : DkOk D) :
    Calls Tryz.prog 34 #[.pointer (some ⟨d, 0, none⟩)] w fun e w' => e = .returned (.int .i64 (D.n - D.used)) ∧ ∃ q, w' = w.drewN q := by
  obtain ⟨G, m, kvs, hA, _⟩ := h
  have c0 : w.cell? ⟨d, 0, none⟩ = some (.int .i64 D.n) := hA.blk.cell 0
  have c1 : w.cell? ⟨d, 1, none⟩ = some (.int .i64 D.used) := hA.blk.cell 1
  have c2 : w.cell? ⟨d, 2, none⟩ = some (.map (some m)) := hA.blk.cell 2
  obtain ⟨n0, n1, u0, u1, _, _, _, _, _, _⟩ := ok
  have hsub : IntKind.i64.wrap (D.n - D.used) = D.n - D.used := IntWalk.i64_in _ (by omega)
  clear hA
  go_enter Tryz.func34, Tryz.ntmps34
  go_wp2_with (go_at_call 48; refine (made_yes d m _ c2).mono ?_; rintro e w' ⟨rfl, rfl⟩)
  go_quiet (fail)
  go_wp2_with fail
  go_ret
  exact ⟨rfl, _, rfl⟩

set_option maxRecDepth 100000 in
set_option maxHeartbeats 400000 in
theorem off_any (F : Nat → Prop) (d : Nat) (D : Dk) (w : World) (h : DiskIs w F d D) :
    Calls Tryz.prog 33 #[.pointer (some ⟨d, 0, none⟩)] w fun e w' => e = .returned (.bool D.off) ∧ w = w' := by
  obtain ⟨G, m, kvs, hA, _⟩ := h
  have c2 : w.cell? ⟨d, 2, none⟩ = some (.map (some m)) := hA.blk.cell 2
  have c5 : w.cell? ⟨d, 5, none⟩ = some (.bool D.off) := hA.blk.cell 5
  generalize D.off = off at *
  clear hA
  go_enter Tryz.func33, Tryz.ntmps33
  go_wp2_with (go_at_call 48; refine (made_yes d m _ c2).mono ?_; rintro e w' ⟨rfl, rfl⟩)
  go_ret
  exact ⟨rfl, rfl⟩

/-- what Read answers. -/
def RdPost (D : Dk) (nm : ByteArray) (w : World) (e : Ending) (w' : World) : Prop :=
  if named nm = true then
    match findF D.files nm with
    | none => e = .returned (.tuple #[.slice none 0 0, .int .i64 3]) ∧ Mod Non w w'
    | some f => ∃ A c, e = .returned (.tuple #[.slice A f.bytes.length c, .int .i64 0]) ∧ w'.ownsRow w.heap.size 5 1 (.slice A f.bytes.length c) f.bytes.length (by8 f.bytes) ∧ Mod Non w w'
  else e = .returned (.tuple #[.slice none 0 0, .int .i64 1]) ∧ Mod Non w w'

set_option maxRecDepth 100000 in
set_option maxHeartbeats 400000 in
theorem read_nil (nm : ByteArray) (w : World) (hs : nm.size ≤ 9223372036854775807) :
    Calls Tryz.prog 74 #[.pointer none, .string nm] w fun e w' => e = .returned (.tuple #[.slice none 0 0, .int .i64 1]) ∧ w = w' := by
  cases hn : named nm
  all_goals
    have HN := Lib.hid hn
    clear hn
    go_enter Tryz.func74, Tryz.ntmps74
    go_wp2_with (first
      | (go_at_call 52; refine (named_any nm _ hs).mono ?_; rintro e w' ⟨rfl, rfl⟩; rw [HN.out])
      | (go_at_call 48; refine (made_no _).mono ?_; rintro e w' ⟨rfl, rfl⟩))
    go_ret2
    exact ⟨rfl, rfl⟩

set_option maxRecDepth 100000 in
set_option maxHeartbeats 800000 in
theorem read_any (nm : ByteArray) (F : Nat → Prop) (d : Nat) (D : Dk) (w : World) (h : DiskIs w F d D) (ok : DkOk D) (hs : nm.size ≤ 9223372036854775807) :
    Calls Tryz.prog 74 #[.pointer (some ⟨d, 0, none⟩), .string nm] w (RdPost D nm w) := by
  obtain ⟨G, m, kvs, hA, _⟩ := h
  have c2 : w.cell? ⟨d, 2, none⟩ = some (.map (some m)) := hA.blk.cell 2
  have HA := Lib.hid hA
  by_cases hn : named nm = true
  · have HN := Lib.hid hn
    cases hf : findF D.files nm with
    | none =>
      have HP : Hid (∀ w', Mod Non w w' → RdPost D nm w (.returned (.tuple #[.slice none 0 0, .int .i64 3])) w') := fun w' hm => by
        unfold RdPost; rw [if_pos hn, hf]; exact ⟨rfl, hm⟩
      have HV := Lib.hid (lost hA hf)
      clear hA hf hn
      go_enter Tryz.func74, Tryz.ntmps74
      go_wp2_with (first
        | (go_at_call 52; refine (named_any nm _ hs).mono ?_; rintro e w' ⟨rfl, rfl⟩; rw [HN.out])
        | (go_at_call 48; refine (made_yes d m _ c2).mono ?_; rintro e w' ⟨rfl, rfl⟩)
        | (at_lookup; refine wpList_look _ rfl (.tmp 20) (.tmp 21) true rfl strKey HA.out.map Tryz.underlying77 Tryz.underlying9 (zeroFile _) nm rfl rfl _ HV.out ?_))
      go_ret2
      exact HP.out _ ((Mod.refl _ _).alloc _)
    | some f =>
      have HP : Hid (∀ w' A c, w'.ownsRow w.heap.size 5 1 (.slice A f.bytes.length c) f.bytes.length (by8 f.bytes) → Mod Non w w' → RdPost D nm w (.returned (.tuple #[.slice A f.bytes.length c, .int .i64 0])) w') := fun w' A c ho hm => by
        unfold RdPost; rw [if_pos hn, hf]; exact ⟨A, c, rfl, ho, hm⟩
      obtain ⟨Af, cf, hg, hr, _, _, _, _⟩ := found hA hf
      have hfl : f.bytes.length ≤ 1099511627776 := by
        have hc := find_cost hf
        have h1 := ok.us; have h2 := ok.u1; have h3 := ok.n1
        unfold costF at hc
        omega
      have HV := Lib.hid hg
      clear hA hf hg hn
      generalize hl : f.bytes.length = l at *
      have HL := Lib.hid hl
      clear hl
      go_enter Tryz.func74, Tryz.ntmps74
      go_wp2_with (first
        | (go_at_call 52; refine (named_any nm _ hs).mono ?_; rintro e w' ⟨rfl, rfl⟩; rw [HN.out])
        | (go_at_call 48; refine (made_yes d m _ c2).mono ?_; rintro e w' ⟨rfl, rfl⟩)
        | (at_lookup; refine wpList_look _ rfl (.tmp 20) (.tmp 21) true rfl strKey HA.out.map Tryz.underlying77 Tryz.underlying9 (zeroFile _) nm rfl rfl _ HV.out ?_)
        | (go_at_call 65; refine (clone_any Af l cf f.bytes _ (hr.alloc _) (by omega)).mono ?_; rintro e w1 ⟨A1, c1, rfl, ho1, hb1⟩))
      go_ret2
      have hm : Mod Non w w1 := ((Mod.refl Non w).alloc _).trans0 (Mod.of_below hb1)
      exact HP.out _ _ _ (own_mono ho1 (by simp)) hm
  · have hn' : named nm = false := by simpa using hn
    have HN := Lib.hid hn'
    clear hn'
    have HP : Hid (∀ w', Mod Non w w' → RdPost D nm w (.returned (.tuple #[.slice none 0 0, .int .i64 1])) w') := fun w' hm => by
      unfold RdPost; rw [if_neg hn]; exact ⟨rfl, hm⟩
    clear hA hn
    go_enter Tryz.func74, Tryz.ntmps74
    go_wp2_with (go_at_call 52; refine (named_any nm _ hs).mono ?_; rintro e w' ⟨rfl, rfl⟩; rw [HN.out])
    go_ret2
    exact HP.out _ (Mod.refl _ _)

end Go.Proofs.YtdpjnpjmokncdaaGreatDoor

/- disk: Sync. -/
namespace Go.Proofs.YtdpjnpjmokncdaaGreatDoor
open Go.RowKit

def syncE (D : Dk) (nm : ByteArray) : Int :=
  if named nm = true then if D.off = true then 5 else if (findF D.files nm).isSome = true then spendE D 0 else 3 else 1
def syncD (D : Dk) (nm : ByteArray) : Dk :=
  if named nm = true ∧ D.off = false then
    match findF D.files nm with
    | none => D
    | some f => if spendE D 0 = 0 then { spendD D 0 with files := putF D.files ⟨nm, f.bytes.length, f.bytes⟩ } else spendD D 0
  else D

set_option maxRecDepth 100000 in
set_option maxHeartbeats 800000 in
theorem sync_bad (F : Nat → Prop) (d : Nat) (D : Dk) (nm : ByteArray) (w : World) (h : DiskIs w F d D) (hs : nm.size ≤ 9223372036854775807) (E : Int)
    (hn : named nm = false ∧ E = 1 ∨ named nm = true ∧ D.off = true ∧ E = 5 ∨ named nm = true ∧ D.off = false ∧ findF D.files nm = none ∧ E = 3) :
    Calls Tryz.prog 82 #[.pointer (some ⟨d, 0, none⟩), .string nm] w (DkPost F d D (.int .i64 E) w) := by
  have HH := Lib.hid h
  have hP : ∀ w', Mod Non w w' → DkPost F d D (.int .i64 E) w (.returned (.int .i64 E)) w' := fun w' e => ⟨rfl, F, HH.out.mod0 e, e.non, fun k hk => .inl hk⟩
  obtain ⟨G, m, kvs, hA, hFd, hFm, hGF, hFp, hFl⟩ := h
  have c2 : w.cell? ⟨d, 2, none⟩ = some (.map (some m)) := hA.blk.cell 2
  have HA := Lib.hid hA
  have HP := Lib.hid hP
  clear hP
  rcases hn with ⟨hn, rfl⟩ | ⟨hn, hoff, rfl⟩ | ⟨hn, hoff, hf, rfl⟩
  · have HN := Lib.hid hn
    have HR : Hid (rightE false D = 1) := rfl
    clear hn hA
    go_enter Tryz.func82, Tryz.ntmps82
    go_wp2_with (first
      | (go_at_call 52; refine (named_any nm _ (by omega)).mono ?_; rintro e w' ⟨rfl, rfl⟩; rw [HN.out])
      | (go_at_call 51; refine (right_any false G d m kvs D _ HA.out).mono ?_; rintro e w' ⟨rfl, rfl⟩; rw [HR.out]))
    go_ret
    exact HP.out _ (Mod.refl _ _)
  · have HN := Lib.hid hn
    have HR : Hid (rightE true D = 5) := by show rightE true D = 5; simp [rightE, hoff]
    clear hn hA hoff
    go_enter Tryz.func82, Tryz.ntmps82
    go_wp2_with (first
      | (go_at_call 52; refine (named_any nm _ (by omega)).mono ?_; rintro e w' ⟨rfl, rfl⟩; rw [HN.out])
      | (go_at_call 51; refine (right_any true G d m kvs D _ HA.out).mono ?_; rintro e w' ⟨rfl, rfl⟩; rw [HR.out]))
    go_ret
    exact HP.out _ (Mod.refl _ _)
  · have HN := Lib.hid hn
    have HR : Hid (rightE true D = 0) := by show rightE true D = 0; simp [rightE, hoff]
    have HV := Lib.hid (lost hA hf)
    clear hn hA hoff hf
    go_enter Tryz.func82, Tryz.ntmps82
    go_wp2_with (first
      | (go_at_call 52; refine (named_any nm _ (by omega)).mono ?_; rintro e w' ⟨rfl, rfl⟩; rw [HN.out])
      | (go_at_call 51; refine (right_any true G d m kvs D _ HA.out).mono ?_; rintro e w' ⟨rfl, rfl⟩; rw [HR.out])
      | (at_lookup; refine wpList_look _ rfl (.tmp 20) (.tmp 21) true rfl strKey HA.out.map Tryz.underlying77 Tryz.underlying9 (zeroFile _) nm rfl rfl _ HV.out ?_))
    go_ret
    exact HP.out _ ((Mod.refl _ _).alloc _)

set_option maxRecDepth 100000 in
set_option maxHeartbeats 1000000 in
theorem sync_has (F : Nat → Prop) (d : Nat) (D : Dk) (nm : ByteArray) (f : Fl) (w : World) (h : DiskIs w F d D) (ok : DkOk D) (hs : nm.size ≤ 9223372036854775807)
    (hn : named nm = true) (hoff : D.off = false) (hf : findF D.files nm = some f) (D' : Dk) (E : Int) (hE : spendE D 0 = E)
    (hD : (if E = 0 then { spendD D 0 with files := putF D.files ⟨nm, f.bytes.length, f.bytes⟩ } else spendD D 0) = D') :
    Calls Tryz.prog 82 #[.pointer (some ⟨d, 0, none⟩), .string nm] w (DkPost F d D' (.int .i64 E) w) := by
  have HD := Lib.hid hD
  have HE := Lib.hid hE
  clear hD hE
  obtain ⟨G, m, kvs, hA, hFd, hFm, hGF, hFp, hFl⟩ := h
  obtain ⟨Af, cf, hg, hrf, hcf1, hcf2, hfG, hfn⟩ := found hA hf
  have hflen : f.bytes.length ≤ 1099511627776 := by
    have hc := find_cost hf
    have h1 := ok.us; have h2 := ok.u1; have h3 := ok.n1
    unfold costF at hc
    omega
  have HN := Lib.hid hn
  have HV := Lib.hid hg
  have HA := Lib.hid hA
  have c2 : w.cell? ⟨d, 2, none⟩ = some (.map (some m)) := hA.blk.cell 2
  have hdl := hA.blk.lt
  have hml := hA.map.lt
  have HR : Hid (rightE true D = 0) := by show rightE true D = 0; simp [rightE, hoff]
  clear hn hoff hfn hg hA hf
  go_enter Tryz.func82, Tryz.ntmps82
  go_wp2_with (first
    | (go_at_call 52; refine (named_any nm _ (by omega)).mono ?_; rintro e w' ⟨rfl, rfl⟩; rw [HN.out])
    | (go_at_call 51; refine (right_any true G d m kvs D _ HA.out).mono ?_; rintro e w' ⟨rfl, rfl⟩; rw [HR.out])
    | (at_lookup; refine wpList_look _ rfl (.tmp 20) (.tmp 21) true rfl strKey HA.out.map Tryz.underlying77 Tryz.underlying9 (zeroFile _) nm rfl rfl _ HV.out ?_))
  refine (spend_any G d m kvs D 0 _ (HA.out.mod0 ((Mod.refl Non w).alloc _)) ok (by have := ok.u0; omega)).mono ?_
  rintro e w1 ⟨rfl, hA1, hm1⟩
  rw [HE.out]
  have HA1 := Lib.hid hA1
  have HM1 := Lib.hid hm1
  have hbox : Blk w1 w.heap.size 58 #[.string nm, .int .i64 (f.safe : Int), .slice Af f.bytes.length cf] := (Blk.new w _ _).mod hm1 (by omega)
  have hsz : w.heap.size < w1.heap.size := hbox.lt
  have c21 : w1.cell? ⟨d, 2, none⟩ = some (.map (some m)) := hA1.blk.cell 2
  have b0 : w1.cell? ⟨w.heap.size, 0, none⟩ = some (.string nm) := hbox.cell 0
  have b1 : w1.cell? ⟨w.heap.size, 1, none⟩ = some (.int .i64 (f.safe : Int)) := hbox.cell 1
  have b2 : w1.cell? ⟨w.heap.size, 2, none⟩ = some (.slice Af f.bytes.length cf) := hbox.cell 2
  have f1 := hbox.frozen 1
  clear hA1 hm1 c2
  by_cases hE : E = 0
  · have HD' : Hid ({ spendD D 0 with files := putF D.files ⟨nm, f.bytes.length, f.bytes⟩ } = D') := by
      have := HD.out
      rwa [if_pos hE] at this
    subst hE
    clear HD
    have hbox2 := hbox.set_ 1 (.int .i64 (f.bytes.length : Int))
    have hm2 : Mod (fun k => k = w.heap.size) w1 (w1.setCell ⟨w.heap.size, 1, none⟩ (.int .i64 (f.bytes.length : Int))) := (Mod.refl _ _).set1 1 _
    have HM2 := Lib.hid hm2
    have hA2 := HA1.out.mod hm2 (by omega) (by omega) (fun k hk => by have := hFl k (hGF k hk); omega) (by have := HA.out.lay.lt; omega)
    have HA2 := Lib.hid hA2
    have c22 : (w1.setCell ⟨w.heap.size, 1, none⟩ (.int .i64 (f.bytes.length : Int))).cell? ⟨d, 2, none⟩ = some (.map (some m)) := hA2.blk.cell 2
    have b02 : (w1.setCell ⟨w.heap.size, 1, none⟩ (.int .i64 (f.bytes.length : Int))).cell? ⟨w.heap.size, 0, none⟩ = some (.string nm) := hbox2.cell 0
    have b12 : (w1.setCell ⟨w.heap.size, 1, none⟩ (.int .i64 (f.bytes.length : Int))).cell? ⟨w.heap.size, 1, none⟩ = some (.int .i64 (f.bytes.length : Int)) := hbox2.cell 1
    have b22 : (w1.setCell ⟨w.heap.size, 1, none⟩ (.int .i64 (f.bytes.length : Int))).cell? ⟨w.heap.size, 2, none⟩ = some (.slice Af f.bytes.length cf) := hbox2.cell 2
    have HB2 := Lib.hid hbox2
    clear hA2 hm2 hbox2
    go_wp2_with fail
    have hs2 : w1.heap.size ≤ (w1.setCell ⟨w.heap.size, 1, none⟩ (.int .i64 (f.bytes.length : Int))).heap.size := by simp
    generalize w1.setCell ⟨w.heap.size, 1, none⟩ (.int .i64 (f.bytes.length : Int)) = w2 at *
    have tok : True := trivial
    go_region_held3 (fun w' => w'.cell? ⟨d, 2, none⟩ = some (.map (some m)) ∧ w'.cell? ⟨w.heap.size, 0, none⟩ = some (.string nm) ∧ w'.cell? ⟨w.heap.size, 1, none⟩ = some (.int .i64 (f.bytes.length : Int)) ∧ w'.cell? ⟨w.heap.size, 2, none⟩ = some (.slice Af f.bytes.length cf))
      (first | go_keep)
      (first
        | (have _t := tok
           obtain ⟨w3, hrun, hp3, hm3⟩ := MapAt.run_put (P := Tryz.prog) strKey (HA2.out.map.mod0' ((Mod.refl Non w2).drew)) Tryz.underlying77 Tryz.underlying9 nm (.agg #[.string nm, .int .i64 (f.bytes.length : Int), .slice Af f.bytes.length cf])
           rw [hrun]
           clear hrun
           have c23 := hm3.cell c22 (p := ⟨d, 2, none⟩) (fun e => HA1.out.dm e)
           have b03 := hm3.cell b02 (p := ⟨w.heap.size, 0, none⟩) (fun e => by simp only at e; omega)
           have b13 := hm3.cell b12 (p := ⟨w.heap.size, 1, none⟩) (fun e => by simp only at e; omega)
           have b23 := hm3.cell b22 (p := ⟨w.heap.size, 2, none⟩) (fun e => by simp only at e; omega)
           simp only [Result.andThen, Oper.upon]))
    go_wp2_with fail
    go_ret
    have hm3' : Mod (fun i => i = m) w2 w3 := ((Mod.refl _ _).drew).trans hm3 fun _ h => .inl h
    have hfl : FlAt w3 G (nm, .agg #[.string nm, .int .i64 (f.bytes.length : Int), .slice Af f.bytes.length cf]) ⟨nm, f.bytes.length, f.bytes⟩ := by
      refine ⟨rfl, Af, cf, rfl, ?_, hcf1, hcf2, hfG⟩
      have r1 : Rd w1 Af f.bytes.length (by8 f.bytes) := (hrf.alloc _).mod HM1.out fun _ b hb e => (HA.out.gd b (hfG b hb)).1 e
      have r2 := r1.mod HM2.out fun _ b hb e => by have := hFl b (hGF b (hfG b hb)); omega
      exact r2.mod hm3' fun _ b hb e => (HA.out.gd b (hfG b hb)).2 e
    have hA3 := HA2.out.stored (f := ⟨nm, f.bytes.length, f.bytes⟩) (B := w1.heap.size) hp3 hm3' (fun k hk => hk) hfl (fun k hk => .inl hk) HA1.out.blk.lt HA1.out.map.lt
    rw [spendD_files] at hA3
    refine ⟨rfl, dk_fin (by rw [← HD'.out]; exact hA3) hFd hFm hFp hFl (fun k hk => .inl (hGF k hk)) ?_ HA.out.lay.lt⟩
    exact ((((Mod.refl F w).alloc _).trans HM1.out (fun k hk => by subst hk; exact .inl hFd)).trans HM2.out (fun k hk => by subst hk; exact .inr (Nat.le_refl _))).trans hm3' (fun k hk => by subst hk; exact .inl hFm)
  · have HD' : Hid (spendD D 0 = D') := by
      have := HD.out
      rwa [if_neg hE] at this
    have hEb : (E == 0) = false := by simp [hE]
    clear HD hE
    go_wp2_with fail
    go_ret
    refine ⟨rfl, dk_fin (by rw [← HD'.out]; exact HA1.out) hFd hFm hFp hFl (fun k hk => .inl (hGF k hk)) ?_ HA.out.lay.lt⟩
    exact ((Mod.refl F w).alloc _).trans HM1.out (fun k hk => by subst hk; exact .inl hFd)

/-- (*Disk).Sync. -/
theorem sync_any (F : Nat → Prop) (d : Nat) (D : Dk) (nm : ByteArray) (w : World) (h : DiskIs w F d D) (ok : DkOk D) (hs : nm.size ≤ 9223372036854775807) :
    Calls Tryz.prog 82 #[.pointer (some ⟨d, 0, none⟩), .string nm] w (DkPost F d (syncD D nm) (.int .i64 (syncE D nm)) w) := by
  by_cases hn : named nm = true
  · by_cases hoff : D.off = true
    · rw [show syncE D nm = 5 by simp [syncE, hn, hoff], show syncD D nm = D by simp [syncD, hoff]]
      exact sync_bad F d D nm w h hs 5 (.inr (.inl ⟨hn, hoff, rfl⟩))
    · have hoff' : D.off = false := by simpa using hoff
      cases hf : findF D.files nm with
      | none =>
        rw [show syncE D nm = 3 by simp [syncE, hn, hoff', hf], show syncD D nm = D by simp [syncD, hf]]
        exact sync_bad F d D nm w h hs 3 (.inr (.inr ⟨hn, hoff', hf, rfl⟩))
      | some f =>
        have h1 : syncE D nm = spendE D 0 := by simp [syncE, hn, hoff', hf]
        have h2 : syncD D nm = if spendE D 0 = 0 then { spendD D 0 with files := putF D.files ⟨nm, f.bytes.length, f.bytes⟩ } else spendD D 0 := by unfold syncD; rw [if_pos ⟨hn, hoff'⟩, hf]
        rw [h1, h2]
        exact sync_has F d D nm f w h ok hs hn hoff' hf _ _ rfl rfl
  · rw [show syncE D nm = 1 by unfold syncE; rw [if_neg hn], show syncD D nm = D by unfold syncD; rw [if_neg (fun h => hn h.1)]]
    exact sync_bad F d D nm w h hs 1 (.inl ⟨by simpa using hn, rfl⟩)

end Go.Proofs.YtdpjnpjmokncdaaGreatDoor

/- The plain disk: what its calls keep. No memory. -/
namespace Go.Proofs.YtdpjnpjmokncdaaGreatDoor
open Go.RowKit

theorem findF_mem {k : ByteArray} {f : Fl} : ∀ {fs : List Fl}, findF fs k = some f → f ∈ fs
  | [], h => by cases h
  | g :: r, h => by
    rw [findF] at h
    split at h
    · cases h; exact .head _
    · exact .tail _ (findF_mem h)
theorem findF_none {k : ByteArray} : ∀ {fs : List Fl}, findF fs k = none → ∀ f ∈ fs, f.name ≠ k
  | [], _ => by simp
  | g :: r, h => by
    rw [findF] at h
    split at h
    · cases h
    · rename_i hn
      intro f hf
      rcases List.mem_cons.1 hf with rfl | hf
      · exact hn
      · exact findF_none h f hf
theorem findF_put_same (g : Fl) : ∀ (fs : List Fl), findF (putF fs g) g.name = some g
  | [] => by simp [putF, findF]
  | f :: r => by
    rw [putF]
    split
    · simp [findF]
    · rename_i hn
      rw [findF, if_neg hn]
      exact findF_put_same g r
theorem findF_put_other (g : Fl) {k : ByteArray} (hk : g.name ≠ k) : ∀ (fs : List Fl), findF (putF fs g) k = findF fs k
  | [] => by simp [putF, findF, hk]
  | f :: r => by
    rw [putF]
    split
    · rename_i he
      rw [findF, if_neg hk, findF, if_neg (by rw [he]; exact hk)]
    · rw [findF, findF, findF_put_other g hk r]
theorem usedF_put_new (g : Fl) : ∀ {fs : List Fl}, findF fs g.name = none → usedF (putF fs g) = usedF fs + costF g
  | [], _ => by simp [putF, usedF]
  | f :: r, h => by
    rw [findF] at h
    split at h
    · cases h
    · rename_i hn
      rw [putF, if_neg hn, usedF, usedF, usedF_put_new g h]; omega
theorem usedF_put_has (g : Fl) {f : Fl} : ∀ {fs : List Fl}, findF fs g.name = some f → usedF (putF fs g) = usedF fs - costF f + costF g
  | [], h => by cases h
  | e :: r, h => by
    rw [findF] at h
    split at h
    · rename_i he
      cases h
      rw [putF, if_pos he, usedF, usedF]; omega
    · rename_i hn
      rw [putF, if_neg hn, usedF, usedF, usedF_put_has g h]; omega
theorem mem_put {g f : Fl} : ∀ {fs : List Fl}, f ∈ putF fs g → f = g ∨ f ∈ fs
  | [], h => by simp only [putF, List.mem_singleton] at h; exact .inl h
  | e :: r, h => by
    rw [putF] at h
    split at h
    · rcases List.mem_cons.1 h with rfl | h
      · exact .inl rfl
      · exact .inr (.tail _ h)
    · rcases List.mem_cons.1 h with rfl | h
      · exact .inr (.head _)
      · exact (mem_put h).imp id (.tail _)
theorem names_put_has (g : Fl) {f : Fl} : ∀ {fs : List Fl}, findF fs g.name = some f → (putF fs g).map (·.name) = fs.map (·.name)
  | [], h => by cases h
  | e :: r, h => by
    rw [findF] at h
    rw [putF]
    split
    · rename_i he
      simp [he]
    · rename_i hn
      rw [if_neg hn] at h
      simp [names_put_has g h]
theorem names_put_new (g : Fl) : ∀ {fs : List Fl}, findF fs g.name = none → (putF fs g).map (·.name) = fs.map (·.name) ++ [g.name]
  | [], _ => by simp [putF]
  | e :: r, h => by
    rw [findF] at h
    rw [putF]
    split
    · rename_i he
      rw [if_pos he] at h
      cases h
    · rename_i hn
      rw [if_neg hn] at h
      simp [names_put_new g h]
theorem nodup_put (g : Fl) {fs : List Fl} (h : (fs.map (·.name)).Nodup) : ((putF fs g).map (·.name)).Nodup := by
  cases hf : findF fs g.name with
  | none =>
    rw [names_put_new g hf]
    refine List.nodup_append.2 ⟨h, by simp, ?_⟩
    intro a ha b hb e
    simp only [List.mem_singleton] at hb
    obtain ⟨f, hf', rfl⟩ := List.mem_map.1 ha
    exact findF_none hf f hf' (by rw [e, hb])
  | some f => rw [names_put_has g hf]; exact h

theorem spendE_zero {D : Dk} {more : Int} (h : spendE D more = 0) : more ≤ D.n - D.used ∧ D.left ≠ 0 ∧ spendD D more = { D with left := max (D.left - 1) (-1), done := wrap64 (D.done + 1), used := D.used + more } := by
  unfold spendE at h
  split at h
  · omega
  · rename_i h1
    split at h
    · omega
    · rename_i h2
      exact ⟨by omega, h2, by unfold spendD; rw [if_neg h1, if_neg h2]⟩
theorem spendD_not {D : Dk} {more : Int} (h : spendE D more ≠ 0) : spendD D more = D ∨ spendD D more = { D with off := true, left := -1 } := by
  unfold spendE at h
  unfold spendD
  split at h
  · rename_i h1; exact .inl (by rw [if_pos h1])
  · rename_i h1
    split at h
    · rename_i h2; exact .inr (by rw [if_neg h1, if_pos h2])
    · omega
theorem spendD_not_ok {D : Dk} {more : Int} (ok : DkOk D) (h : spendE D more ≠ 0) : DkOk (spendD D more) := by
  rcases spendD_not h with e | e
  · rw [e]; exact ok
  · rw [e]; exact ⟨ok.n0, ok.n1, ok.u0, ok.u1, by simp, by simp, ok.us, ok.sf, ok.nm, ok.nd⟩

theorem appendD_ok {D : Dk} (ok : DkOk D) (nm : ByteArray) (b : List UInt8) : DkOk (appendD D nm b) := by
  unfold appendD
  split
  · rename_i h
    split
    · rename_i h0
      obtain ⟨h1, h2, h3⟩ := spendE_zero h0
      rw [h3]
      have l0 := ok.l0; have l1 := ok.l1; have u0 := ok.u0; have us := ok.us
      have hname : (fileA D nm b).name = nm := by unfold fileA; split <;> rfl
      have hused : usedF (putF D.files (fileA D nm b)) = D.used + moreA D nm b.length := by
        cases hf : findF D.files nm with
        | none =>
          rw [usedF_put_new _ (by rw [hname]; exact hf), us]
          unfold moreA fileA
          simp only [hf, costF]
          simp
        | some f =>
          rw [usedF_put_has _ (by rw [hname]; exact hf), us]
          have hfn := find_name hf
          unfold moreA fileA
          simp only [hf, costF, hfn]
          simp; omega
      have hm : 0 ≤ moreA D nm b.length := by unfold moreA; split <;> omega
      refine ⟨ok.n0, ok.n1, by simp only; omega, by simp only; omega, by simp only; omega, by simp only; omega, hused, ?_, ?_, nodup_put _ ok.nd⟩
      · intro f hf
        rcases mem_put hf with rfl | hf
        · unfold fileA
          split
          · rename_i f0 hf0
            have := ok.sf _ (findF_mem hf0)
            simp; omega
          · simp
        · exact ok.sf f hf
      · intro f hf
        rcases mem_put hf with rfl | hf
        · rw [hname]; exact h.1
        · exact ok.nm f hf
    · rename_i h0
      exact spendD_not_ok ok h0
  · exact ok

theorem syncD_ok {D : Dk} (ok : DkOk D) (nm : ByteArray) : DkOk (syncD D nm) := by
  unfold syncD
  split
  · rename_i h
    split
    · exact ok
    · rename_i f hf
      split
      · rename_i h0
        obtain ⟨h1, h2, h3⟩ := spendE_zero h0
        rw [h3]
        have l0 := ok.l0; have l1 := ok.l1; have u0 := ok.u0; have us := ok.us; have u1 := ok.u1
        have hfn := find_name hf
        refine ⟨ok.n0, ok.n1, by simp only; omega, by simp only; omega, by simp only; omega, by simp only; omega, ?_, ?_, ?_, nodup_put _ ok.nd⟩
        · rw [usedF_put_has _ hf]
          simp only [costF, hfn]
          omega
        · intro g hg
          rcases mem_put hg with rfl | hg
          · simp
          · exact ok.sf g hg
        · intro g hg
          rcases mem_put hg with rfl | hg
          · exact h.1
          · exact ok.nm g hg
      · rename_i h0
        exact spendD_not_ok ok h0
  · exact ok

end Go.Proofs.YtdpjnpjmokncdaaGreatDoor

/- disk: Remove. -/
namespace Go.Proofs.YtdpjnpjmokncdaaGreatDoor
open Go.RowKit

def removeE (D : Dk) (nm : ByteArray) : Int :=
  if named nm = true then if D.off = true then 5 else match findF D.files nm with
    | none => 3
    | some f => spendE D (-costF f)
  else 1
def removeD (D : Dk) (nm : ByteArray) : Dk :=
  if named nm = true ∧ D.off = false then
    match findF D.files nm with
    | none => D
    | some f => if spendE D (-costF f) = 0 then { spendD D (-costF f) with files := delF D.files nm } else spendD D (-costF f)
  else D

theorem findF_del_other {nm k : ByteArray} (hk : nm ≠ k) : ∀ (fs : List Fl), findF (delF fs nm) k = findF fs k
  | [] => rfl
  | f :: r => by
    rw [delF]
    split
    · rename_i he
      rw [findF, if_neg (by rw [he]; exact hk)]
    · rw [findF, findF, findF_del_other hk r]
theorem usedF_del {nm : ByteArray} {f : Fl} : ∀ {fs : List Fl}, findF fs nm = some f → usedF (delF fs nm) = usedF fs - costF f
  | [], h => by cases h
  | g :: r, h => by
    rw [findF] at h
    rw [delF]
    split at h
    · rename_i he
      cases h
      rw [if_pos he, usedF]; omega
    · rename_i hn
      rw [if_neg hn, usedF, usedF, usedF_del h]; omega
theorem mem_del {nm : ByteArray} {f : Fl} : ∀ {fs : List Fl}, f ∈ delF fs nm → f ∈ fs
  | [], h => h
  | g :: r, h => by
    rw [delF] at h
    split at h
    · exact .tail _ h
    · rcases List.mem_cons.1 h with rfl | h
      · exact .head _
      · exact .tail _ (mem_del h)
theorem names_del {nm : ByteArray} : ∀ {fs : List Fl}, (fs.map (·.name)).Nodup → (delF fs nm).map (·.name) = (fs.map (·.name)).filter (fun k => decide (k ≠ nm))
  | [], _ => rfl
  | g :: r, h => by
    rw [List.map_cons, List.nodup_cons] at h
    rw [delF, List.map_cons, List.filter_cons]
    by_cases he : g.name = nm
    · rw [if_pos he, if_neg (by simp [he])]
      symm
      rw [List.filter_eq_self]
      intro k hk
      simp only [decide_eq_true_eq, ne_eq]
      rintro rfl
      exact h.1 (he ▸ hk)
    · rw [if_neg he, if_pos (by simp [he]), List.map_cons, names_del h.2]
theorem findF_del_same {nm : ByteArray} {fs : List Fl} (h : (fs.map (·.name)).Nodup) : findF (delF fs nm) nm = none := by
  cases hf : findF (delF fs nm) nm with
  | none => rfl
  | some f =>
    have h1 := findF_mem hf
    have h2 := find_name hf
    have h3 : f.name ∈ (delF fs nm).map (·.name) := List.mem_map.2 ⟨f, h1, rfl⟩
    rw [names_del h, List.mem_filter] at h3
    simp [h2] at h3
theorem nodup_del {nm : ByteArray} {fs : List Fl} (h : (fs.map (·.name)).Nodup) : ((delF fs nm).map (·.name)).Nodup := by
  rw [names_del h]; exact h.filter _
theorem usedF_nonneg : ∀ l : List Fl, 0 ≤ usedF l
  | [] => by simp [usedF]
  | f :: r => by have := usedF_nonneg r; simp only [usedF, costF]; omega

theorem removeD_ok {D : Dk} (ok : DkOk D) (nm : ByteArray) : DkOk (removeD D nm) := by
  unfold removeD
  split
  · split
    · exact ok
    · rename_i f hf
      split
      · rename_i h0
        obtain ⟨h1, h2, h3⟩ := spendE_zero h0
        rw [h3]
        have l0 := ok.l0; have l1 := ok.l1; have u0 := ok.u0; have us := ok.us; have u1 := ok.u1
        have hd := usedF_del hf
        have hp := usedF_nonneg (delF D.files nm)
        have hc : 0 ≤ costF f := by unfold costF; omega
        exact ⟨ok.n0, ok.n1, by simp only; omega, by simp only; omega, by simp only; omega, by simp only; omega, by simp only; omega, fun g hg => ok.sf g (mem_del hg), fun g hg => ok.nm g (mem_del hg), nodup_del ok.nd⟩
      · rename_i h0
        exact spendD_not_ok ok h0
  · exact ok

end Go.Proofs.YtdpjnpjmokncdaaGreatDoor

/- disk: Remove, the walk. -/
namespace Go.Proofs.YtdpjnpjmokncdaaGreatDoor
open Go.RowKit

set_option maxRecDepth 100000 in
set_option maxHeartbeats 800000 in
theorem remove_bad (F : Nat → Prop) (d : Nat) (D : Dk) (nm : ByteArray) (w : World) (h : DiskIs w F d D) (hs : nm.size ≤ 9223372036854775807) (E : Int)
    (hn : named nm = false ∧ E = 1 ∨ named nm = true ∧ D.off = true ∧ E = 5 ∨ named nm = true ∧ D.off = false ∧ findF D.files nm = none ∧ E = 3) :
    Calls Tryz.prog 80 #[.pointer (some ⟨d, 0, none⟩), .string nm] w (DkPost F d D (.int .i64 E) w) := by
  have HH := Lib.hid h
  have hP : ∀ w', Mod Non w w' → DkPost F d D (.int .i64 E) w (.returned (.int .i64 E)) w' := fun w' e => ⟨rfl, F, HH.out.mod0 e, e.non, fun k hk => .inl hk⟩
  obtain ⟨G, m, kvs, hA, hFd, hFm, hGF, hFp, hFl⟩ := h
  have c2 : w.cell? ⟨d, 2, none⟩ = some (.map (some m)) := hA.blk.cell 2
  have HA := Lib.hid hA
  have HP := Lib.hid hP
  clear hP
  rcases hn with ⟨hn, rfl⟩ | ⟨hn, hoff, rfl⟩ | ⟨hn, hoff, hf, rfl⟩
  · have HN := Lib.hid hn
    have HR : Hid (rightE false D = 1) := rfl
    clear hn hA
    go_enter Tryz.func80, Tryz.ntmps80
    go_wp2_with (first
      | (go_at_call 52; refine (named_any nm _ (by omega)).mono ?_; rintro e w' ⟨rfl, rfl⟩; rw [HN.out])
      | (go_at_call 51; refine (right_any false G d m kvs D _ HA.out).mono ?_; rintro e w' ⟨rfl, rfl⟩; rw [HR.out]))
    go_ret
    exact HP.out _ (Mod.refl _ _)
  · have HN := Lib.hid hn
    have HR : Hid (rightE true D = 5) := by show rightE true D = 5; simp [rightE, hoff]
    clear hn hA hoff
    go_enter Tryz.func80, Tryz.ntmps80
    go_wp2_with (first
      | (go_at_call 52; refine (named_any nm _ (by omega)).mono ?_; rintro e w' ⟨rfl, rfl⟩; rw [HN.out])
      | (go_at_call 51; refine (right_any true G d m kvs D _ HA.out).mono ?_; rintro e w' ⟨rfl, rfl⟩; rw [HR.out]))
    go_ret
    exact HP.out _ (Mod.refl _ _)
  · have HN := Lib.hid hn
    have HR : Hid (rightE true D = 0) := by show rightE true D = 0; simp [rightE, hoff]
    have HV := Lib.hid (lost hA hf)
    clear hn hA hoff hf
    go_enter Tryz.func80, Tryz.ntmps80
    go_wp2_with (first
      | (go_at_call 52; refine (named_any nm _ (by omega)).mono ?_; rintro e w' ⟨rfl, rfl⟩; rw [HN.out])
      | (go_at_call 51; refine (right_any true G d m kvs D _ HA.out).mono ?_; rintro e w' ⟨rfl, rfl⟩; rw [HR.out])
      | (at_lookup; refine wpList_look _ rfl (.tmp 20) (.tmp 21) true rfl strKey HA.out.map Tryz.underlying77 Tryz.underlying9 (zeroFile _) nm rfl rfl _ HV.out ?_))
    go_ret
    exact HP.out _ ((Mod.refl _ _).alloc _)

set_option maxRecDepth 100000 in
set_option maxHeartbeats 1000000 in
theorem remove_has (F : Nat → Prop) (d : Nat) (D : Dk) (nm : ByteArray) (f : Fl) (w : World) (h : DiskIs w F d D) (ok : DkOk D) (hs : nm.size ≤ 9223372036854775807)
    (hn : named nm = true) (hoff : D.off = false) (hf : findF D.files nm = some f) (D' : Dk) (E : Int) (hE : spendE D (-costF f) = E)
    (hD : (if E = 0 then { spendD D (-costF f) with files := delF D.files nm } else spendD D (-costF f)) = D') :
    Calls Tryz.prog 80 #[.pointer (some ⟨d, 0, none⟩), .string nm] w (DkPost F d D' (.int .i64 E) w) := by
  have HD := Lib.hid hD
  have HE := Lib.hid hE
  clear hD hE
  obtain ⟨G, m, kvs, hA, hFd, hFm, hGF, hFp, hFl⟩ := h
  obtain ⟨Af, cf, hg, hrf, hcf1, hcf2, hfG, hfn⟩ := found hA hf
  have hc := find_cost hf
  have hcu : costF f ≤ D.used := by rw [← ok.us]; exact hc
  have hflen : f.bytes.length ≤ 1099511627776 := by
    have h1 := ok.us; have h2 := ok.u1; have h3 := ok.n1
    unfold costF at hc
    omega
  have hcost : Hid ((16 : Int) + nm.size + f.bytes.length = costF f) := by show _ = _; unfold costF; rw [hfn]
  have hnms : nm.size ≤ 100 := by
    unfold named at hn
    simp only [Bool.and_eq_true, decide_eq_true_eq] at hn
    exact hn.2.1
  have hcb : 0 ≤ costF f ∧ costF f ≤ 2000000000000 := by rw [← hcost.out]; omega
  have HN := Lib.hid hn
  have HV := Lib.hid hg
  have HA := Lib.hid hA
  have c2 : w.cell? ⟨d, 2, none⟩ = some (.map (some m)) := hA.blk.cell 2
  have hdl := hA.blk.lt
  have hml := hA.map.lt
  have HR : Hid (rightE true D = 0) := by show rightE true D = 0; simp [rightE, hoff]
  clear hn hoff hfn hg hA hf hc
  obtain ⟨fl, hfl⟩ : ∃ fl, f.bytes.length = fl := ⟨_, rfl⟩
  have HFL := Lib.hid hfl
  rw [hfl] at hflen hcf1 hcost HV
  obtain ⟨co, hco⟩ : ∃ co, costF f = co := ⟨_, rfl⟩
  rw [hco] at hcost hcb hcu HE HD
  have hneg : IntKind.i64.wrap (-co) = -co := IntWalk.i64_in _ (by omega)
  have hneg2 : wrap64 (-co) = -co := by unfold wrap64; omega
  clear hfl hco
  go_enter Tryz.func80, Tryz.ntmps80
  go_wp2_with (first
    | (go_at_call 52; refine (named_any nm _ (by omega)).mono ?_; rintro e w' ⟨rfl, rfl⟩; rw [HN.out])
    | (go_at_call 51; refine (right_any true G d m kvs D _ HA.out).mono ?_; rintro e w' ⟨rfl, rfl⟩; rw [HR.out])
    | (go_at_call 53; refine (cost_any nm fl _ (by omega) (by omega)).mono ?_; rintro e w' ⟨rfl, rfl⟩; rw [hcost.out])
    | (at_lookup; refine wpList_look _ rfl (.tmp 20) (.tmp 21) true rfl strKey HA.out.map Tryz.underlying77 Tryz.underlying9 (zeroFile _) nm rfl rfl _ HV.out ?_))
  refine (spend_any G d m kvs D (-co) _ (HA.out.mod0 ((Mod.refl Non w).alloc _)) ok (by omega)).mono ?_
  rintro e w1 ⟨rfl, hA1, hm1⟩
  rw [HE.out]
  have HA1 := Lib.hid hA1
  have HM1 := Lib.hid hm1
  have c21 : w1.cell? ⟨d, 2, none⟩ = some (.map (some m)) := hA1.blk.cell 2
  clear hA1 hm1 c2 hneg hneg2
  have hmw1 : Hid (Mod F w w1) := ((Mod.refl F w).alloc _).trans HM1.out (fun k hk => by subst hk; exact .inl hFd)
  by_cases hE : E = 0
  · have HD' : Hid ({ spendD D (-co) with files := delF D.files nm } = D') := by
      have := HD.out
      rwa [if_pos hE] at this
    subst hE
    clear HD
    go_wp2_with (first
      | (at_builtin; fail)
      | (refine wpList_del _ rfl (.tmp 40) (.tmp 41) rfl strKey HA1.out.map Tryz.underlying77 Tryz.underlying9 nm rfl rfl ?_
         intro w3 hp3 hm3))
    go_ret
    have hfs := spendD_files D (-co)
    have hA3 := HA1.out.dropped hp3 hm3
    rw [hfs] at hA3
    refine ⟨rfl, dk_fin (by rw [← HD'.out]; exact hA3) hFd hFm hFp hFl (fun k hk => .inl (hGF k hk)) ?_ HA.out.lay.lt⟩
    exact hmw1.out.trans hm3 fun k hk => by subst hk; exact .inl hFm
  · have HD' : Hid (spendD D (-co) = D') := by
      have := HD.out
      rwa [if_neg hE] at this
    have hEb : (E == 0) = false := by simp [hE]
    clear HD hE
    go_wp2_with fail
    go_ret
    exact ⟨rfl, dk_fin (by rw [← HD'.out]; exact HA1.out) hFd hFm hFp hFl (fun k hk => .inl (hGF k hk)) hmw1.out HA.out.lay.lt⟩

/-- (*Disk).Remove. -/
theorem remove_any (F : Nat → Prop) (d : Nat) (D : Dk) (nm : ByteArray) (w : World) (h : DiskIs w F d D) (ok : DkOk D) (hs : nm.size ≤ 9223372036854775807) :
    Calls Tryz.prog 80 #[.pointer (some ⟨d, 0, none⟩), .string nm] w (DkPost F d (removeD D nm) (.int .i64 (removeE D nm)) w) := by
  by_cases hn : named nm = true
  · by_cases hoff : D.off = true
    · rw [show removeE D nm = 5 by simp [removeE, hn, hoff], show removeD D nm = D by simp [removeD, hoff]]
      exact remove_bad F d D nm w h hs 5 (.inr (.inl ⟨hn, hoff, rfl⟩))
    · have hoff' : D.off = false := by simpa using hoff
      cases hf : findF D.files nm with
      | none =>
        rw [show removeE D nm = 3 by simp [removeE, hn, hoff', hf], show removeD D nm = D by simp [removeD, hf]]
        exact remove_bad F d D nm w h hs 3 (.inr (.inr ⟨hn, hoff', hf, rfl⟩))
      | some f =>
        have h1 : removeE D nm = spendE D (-costF f) := by simp [removeE, hn, hoff', hf]
        have h2 : removeD D nm = if spendE D (-costF f) = 0 then { spendD D (-costF f) with files := delF D.files nm } else spendD D (-costF f) := by unfold removeD; rw [if_pos ⟨hn, hoff'⟩, hf]
        rw [h1, h2]
        exact remove_has F d D nm f w h ok hs hn hoff' hf _ _ rfl rfl
  · rw [show removeE D nm = 1 by unfold removeE; rw [if_neg hn], show removeD D nm = D by unfold removeD; rw [if_neg (fun h => hn h.1)]]
    exact remove_bad F d D nm w h hs 1 (.inl ⟨by simpa using hn, rfl⟩)

end Go.Proofs.YtdpjnpjmokncdaaGreatDoor

/- (*Disk).Rename, the plain part. -/
namespace Go.Proofs.YtdpjnpjmokncdaaGreatDoor
open Go.RowKit

/-- what a new name costs. -/
def moreR (D : Dk) (a b : ByteArray) : Int := (b.size : Int) - a.size - (match findF D.files b with | some g => if a = b then 0 else costF g | none => 0)
def renameE (D : Dk) (a b : ByteArray) : Int :=
  if named a = true ∧ named b = true then if D.off = true then 5 else match findF D.files a with
    | none => 3
    | some _ => spendE D (moreR D a b)
  else 1
def renameD (D : Dk) (a b : ByteArray) : Dk :=
  if named a = true ∧ named b = true ∧ D.off = false then
    match findF D.files a with
    | none => D
    | some f => if spendE D (moreR D a b) = 0 then { spendD D (moreR D a b) with files := putF (delF D.files a) { f with name := b } } else spendD D (moreR D a b)
  else D

theorem usedF_rename {D : Dk} (ok : DkOk D) {a b : ByteArray} {f : Fl} (hf : findF D.files a = some f) : usedF (putF (delF D.files a) { f with name := b }) = D.used + moreR D a b := by
  have hd := usedF_del hf
  have hn := find_name hf
  have us := ok.us
  unfold moreR
  by_cases hab : a = b
  · subst hab
    have h0 := findF_del_same (nm := a) ok.nd
    rw [usedF_put_new _ (by exact h0), hd, hf]
    simp only [if_pos, costF, hn]
    omega
  · have ho := findF_del_other hab D.files
    cases hb : findF D.files b with
    | none =>
      rw [usedF_put_new _ (by rw [ho]; exact hb), hd]
      simp only [costF, hn]
      omega
    | some g =>
      rw [usedF_put_has _ (by rw [ho]; exact hb), hd]
      simp only [if_neg hab, costF, hn]
      omega

theorem renameD_ok {D : Dk} (ok : DkOk D) (a b : ByteArray) : DkOk (renameD D a b) := by
  unfold renameD
  split
  · rename_i hnn
    split
    · exact ok
    · rename_i f hf
      split
      · rename_i h0
        obtain ⟨h1, h2, h3⟩ := spendE_zero h0
        rw [h3]
        have l0 := ok.l0; have l1 := ok.l1; have u0 := ok.u0; have us := ok.us; have u1 := ok.u1
        have hu := usedF_rename ok (b := b) hf
        have hp := usedF_nonneg (putF (delF D.files a) { f with name := b })
        refine ⟨ok.n0, ok.n1, by simp only; omega, by simp only; omega, by simp only; omega, by simp only; omega, hu, ?_, ?_, nodup_put _ (nodup_del ok.nd)⟩
        · intro g hg
          rcases mem_put hg with rfl | hg
          · exact ok.sf f (findF_mem hf)
          · exact ok.sf g (mem_del hg)
        · intro g hg
          rcases mem_put hg with rfl | hg
          · exact hnn.2.1
          · exact ok.nm g (mem_del hg)
      · rename_i h0
        exact spendD_not_ok ok h0
  · exact ok

end Go.Proofs.YtdpjnpjmokncdaaGreatDoor

/- (*Disk).Rename, the walk: where it cannot be. -/
namespace Go.Proofs.YtdpjnpjmokncdaaGreatDoor
open Go.RowKit

set_option maxRecDepth 100000 in
set_option maxHeartbeats 1600000 in
theorem rename_bad (F : Nat → Prop) (d : Nat) (D : Dk) (a b : ByteArray) (w : World) (h : DiskIs w F d D) (hsa : a.size ≤ 9223372036854775807) (hsb : b.size ≤ 9223372036854775807) (E : Int)
    (hn : named a = false ∧ E = 1 ∨ named a = true ∧ named b = false ∧ E = 1 ∨ named a = true ∧ named b = true ∧ D.off = true ∧ E = 5 ∨ named a = true ∧ named b = true ∧ D.off = false ∧ findF D.files a = none ∧ E = 3) :
    Calls Tryz.prog 41 #[.pointer (some ⟨d, 0, none⟩), .string a, .string b] w (DkPost F d D (.int .i64 E) w) := by
  have HH := Lib.hid h
  have hP : ∀ w', Mod Non w w' → DkPost F d D (.int .i64 E) w (.returned (.int .i64 E)) w' := fun w' e => ⟨rfl, F, HH.out.mod0 e, e.non, fun k hk => .inl hk⟩
  obtain ⟨G, m, kvs, hA, hFd, hFm, hGF, hFp, hFl⟩ := h
  have c2 : w.cell? ⟨d, 2, none⟩ = some (.map (some m)) := hA.blk.cell 2
  have HA := Lib.hid hA
  have HP := Lib.hid hP
  clear hP
  rcases hn with ⟨hn, rfl⟩ | ⟨hn, hb, rfl⟩ | ⟨hn, hb, hoff, rfl⟩ | ⟨hn, hb, hoff, hf, rfl⟩
  · have HNA := Lib.hid hn
    have HR : Hid (rightE false D = 1) := rfl
    clear hn hA
    go_enter Tryz.func41, Tryz.ntmps41
    go_wp2_with (first
      | (go_at_call 52; (with_reducible refine (named_any a _ (by omega)).mono ?_); rintro e w' ⟨rfl, rfl⟩; rw [HNA.out])
      | (go_at_call 51; refine (right_any false G d m kvs D _ HA.out).mono ?_; rintro e w' ⟨rfl, rfl⟩; rw [HR.out])
      | fail)
    go_ret
    exact HP.out _ (Mod.refl _ _)
  · have HNA := Lib.hid hn
    have HNB := Lib.hid hb
    have HR : Hid (rightE false D = 1) := rfl
    clear hn hb hA
    go_enter Tryz.func41, Tryz.ntmps41
    go_wp2_with (first
      | (go_at_call 52; (with_reducible refine (named_any a _ (by omega)).mono ?_); rintro e w' ⟨rfl, rfl⟩; rw [HNA.out])
      | (go_at_call 52; (with_reducible refine (named_any b _ (by omega)).mono ?_); rintro e w' ⟨rfl, rfl⟩; rw [HNB.out])
      | (go_at_call 51; refine (right_any false G d m kvs D _ HA.out).mono ?_; rintro e w' ⟨rfl, rfl⟩; rw [HR.out])
      | fail)
    go_ret
    exact HP.out _ (Mod.refl _ _)
  · have HNA := Lib.hid hn
    have HNB := Lib.hid hb
    have HR : Hid (rightE true D = 5) := by show rightE true D = 5; simp [rightE, hoff]
    clear hn hb hA hoff
    go_enter Tryz.func41, Tryz.ntmps41
    go_wp2_with (first
      | (go_at_call 52; (with_reducible refine (named_any a _ (by omega)).mono ?_); rintro e w' ⟨rfl, rfl⟩; rw [HNA.out])
      | (go_at_call 52; (with_reducible refine (named_any b _ (by omega)).mono ?_); rintro e w' ⟨rfl, rfl⟩; rw [HNB.out])
      | (go_at_call 51; refine (right_any true G d m kvs D _ HA.out).mono ?_; rintro e w' ⟨rfl, rfl⟩; rw [HR.out])
      | fail)
    go_ret
    exact HP.out _ (Mod.refl _ _)
  · have HNA := Lib.hid hn
    have HNB := Lib.hid hb
    have HR : Hid (rightE true D = 0) := by show rightE true D = 0; simp [rightE, hoff]
    have HV := Lib.hid (lost hA hf)
    clear hn hb hA hoff hf
    go_enter Tryz.func41, Tryz.ntmps41
    go_wp2_with (first
      | (go_at_call 52; (with_reducible refine (named_any a _ (by omega)).mono ?_); rintro e w' ⟨rfl, rfl⟩; rw [HNA.out])
      | (go_at_call 52; (with_reducible refine (named_any b _ (by omega)).mono ?_); rintro e w' ⟨rfl, rfl⟩; rw [HNB.out])
      | (go_at_call 51; refine (right_any true G d m kvs D _ HA.out).mono ?_; rintro e w' ⟨rfl, rfl⟩; rw [HR.out])
      | (at_lookup; refine wpList_look _ rfl (.tmp 29) (.tmp 30) true rfl strKey HA.out.map Tryz.underlying77 Tryz.underlying9 (zeroFile _) a rfl rfl _ HV.out ?_)
      | fail)
    go_ret
    exact HP.out _ ((Mod.refl _ _).alloc _)

end Go.Proofs.YtdpjnpjmokncdaaGreatDoor
