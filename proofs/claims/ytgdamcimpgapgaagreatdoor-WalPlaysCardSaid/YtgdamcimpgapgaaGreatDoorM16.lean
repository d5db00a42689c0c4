/- wal.none, wal.Need, wal.chunks. -/
import Derived.Test.YtgdamcimpgapgaaGreatDoorM11
import Derived.Test.YtgdamcimpgapgaaGreatDoorM15
import Derived.Test.YtgdamcimpgapgaaGreatDoorM05
namespace Go.Proofs.YtgdamcimpgapgaaGreatDoor
open Go.RowKit

def walDir : ByteArray := ⟨#[119, 97, 108, 47]⟩
theorem walDir_named : named walDir = true := by decide +kernel

set_option maxRecDepth 100000 in
set_option maxHeartbeats 400000 in
theorem none_any (F : Nat → Prop) (d : Nat) (D : Dk) (w : World) (h : DiskIs w F d D) (ok : DkOk D) :
    Calls Tryz.prog 29 #[.pointer (some ⟨d, 0, none⟩)] w fun e w' => e = .returned (.bool false) ∧ Mod Non w w' := by
  have hr := read_any walDir F d D w h ok (by decide)
  cases hf : findF D.files walDir with
  | none =>
    have hc : Calls Tryz.prog 40 #[.pointer (some ⟨d, 0, none⟩), .string walDir] w fun e w' => e = .returned (.tuple #[.slice none 0 0, .int .i64 3]) ∧ Mod Non w w' := hr.mono fun e w' hp => by
      unfold RdPost at hp; rw [if_pos walDir_named, hf] at hp; exact hp
    have HC := Lib.hid hc
    clear hc hr hf
    unfold walDir at HC
    go_enter Tryz.func29, Tryz.ntmps29
    go_wp2_with (go_at_call 40; refine HC.out.mono ?_; rintro e w1 ⟨rfl, hm1⟩)
    go_ret
    exact ⟨rfl, hm1⟩
  | some f =>
    have hc : Calls Tryz.prog 40 #[.pointer (some ⟨d, 0, none⟩), .string walDir] w fun e w' => ∃ A c n, e = .returned (.tuple #[.slice A n c, .int .i64 0]) ∧ Mod Non w w' := hr.mono fun e w' hp => by
      unfold RdPost at hp; rw [if_pos walDir_named, hf] at hp
      obtain ⟨A, c, h1, _, h2⟩ := hp
      exact ⟨A, c, _, h1, h2⟩
    have HC := Lib.hid hc
    clear hc hr hf
    unfold walDir at HC
    go_enter Tryz.func29, Tryz.ntmps29
    go_wp2_with (go_at_call 40; refine HC.out.mono ?_; rintro e w1 ⟨A1, c1, n1, rfl, hm1⟩)
    go_ret
    exact ⟨rfl, hm1⟩

set_option maxRecDepth 100000 in
set_option maxHeartbeats 400000 in
theorem none_nil (w : World) : Calls Tryz.prog 29 #[.pointer none] w fun e w' => e = .returned (.bool true) ∧ w = w' := by
  have HC := Lib.hid (read_nil walDir w (by decide))
  unfold walDir at HC
  go_enter Tryz.func29, Tryz.ntmps29
  go_wp2_with (go_at_call 40; refine HC.out.mono ?_; rintro e w1 ⟨rfl, rfl⟩)
  go_ret
  exact ⟨rfl, rfl⟩

set_option maxHeartbeats 400000 in
theorem chunks_any (A : Option Addr) (n c : Nat) (w : World) : Calls Tryz.prog 33 #[.slice A n c] w fun e w' => e = .returned (.func (.func 64) #[] #[.pointer (some ⟨w.heap.size, 0, none⟩)]) ∧ w.alloc (.cells #[.slice A n c] 31) = w' := by
  have hmf : ∀ (fn : Fn) (first cap : Array Value) (w : World), (Instr.makeFunc fn first cap).run Tryz.prog w = .ok (.func fn first cap) w := fun _ _ _ _ => rfl
  go_enter Tryz.func33, Tryz.ntmps33
  go_wp2
  go_ret
  exact ⟨rfl, rfl⟩

/-- a segment's file, "" where the number may not be. -/
def nameW (n : Int) : ByteArray := if 0 ≤ n ∧ n ≤ 1099511627776 then walName n.toNat else ⟨#[]⟩
theorem nameW_size (n : Int) : (nameW n).size ≤ 17 := by
  unfold nameW
  split
  · rw [walName_size (by omega)]; omega
  · simp [ByteArray.size]
theorem nameW_yes {n : Int} (h0 : 0 ≤ n) (h1 : n ≤ 1099511627776) : nameW n = walName n.toNat := by unfold nameW; rw [if_pos ⟨h0, h1⟩]
theorem name_any (n : Int) (w : World) (hL : Lay w) : Calls Tryz.prog 9 #[.int .i64 n] w fun e w' => e = .returned (.string (nameW n)) ∧ Mod Non w w' := by
  by_cases h : 0 ≤ n ∧ n ≤ 1099511627776
  · obtain ⟨k, rfl⟩ := Int.eq_ofNat_of_zero_le h.1
    rw [nameW_yes h.1 h.2, Int.toNat_natCast]
    exact (name_yes k w hL (by omega)).mono fun e w' hp => ⟨hp.1, Mod.of_below hp.2⟩
  · have : nameW n = ⟨#[]⟩ := by unfold nameW; rw [if_neg h]
    rw [this]
    exact (name_no n w (by omega)).mono fun e w' hp => ⟨hp.1, by rw [← hp.2]; exact Mod.refl _ _⟩

def needW (D : Dk) (n : Int) (b : List UInt8) : Int := if (findF D.files (nameW n)).isSome = true then (frameB b).length else (frameB b).length + 16 + (nameW n).size

set_option maxRecDepth 100000 in
set_option maxHeartbeats 800000 in
theorem need_any (F : Nat → Prop) (d : Nat) (D : Dk) (n : Int) (A : Option Addr) (m c : Nat) (b : List UInt8) (w : World) (h : DiskIs w F d D) (g : Rd w A m (by8 b)) (hm : m ≤ 140737488351232) :
    Calls Tryz.prog 32 #[.pointer (some ⟨d, 0, none⟩), .int .i64 n, .slice A m c] w fun e w' => e = .returned (.int .i64 (needW D n b)) ∧ Mod Non w w' := by
  have hnl : (frameB b).length ≤ 140737488355328 := by
    have hbl : b.length = m := by simpa using g.1
    have h9 := numB_len9 (n := b.length) (by omega)
    unfold frameB
    simp only [List.length_append, high4, List.length_cons, List.length_nil]
    omega
  have hns := nameW_size n
  obtain ⟨x, hx⟩ : ∃ x, (findF D.files (nameW n)).isSome = x := ⟨_, rfl⟩
  have HX := Lib.hid hx
  have HN : Hid (needW D n b = if x = true then ((frameB b).length : Int) else (frameB b).length + 16 + (nameW n).size) := by show needW D n b = _; unfold needW; rw [hx]
  clear hx
  have hL := h.lay
  have HH := Lib.hid h
  have HL := Lib.hid hL
  clear h hL
  obtain ⟨l, hl⟩ : ∃ l, (frameB b).length = l := ⟨_, rfl⟩
  have HLL := Lib.hid hl
  rw [hl] at hnl HN
  clear hl
  cases x
  all_goals
    go_enter Tryz.func32, Tryz.ntmps32
    go_wp2_with fail
    refine (putFrame_any none A 0 0 m c [] b _ (Rd.nil _ _) g (by omega)).mono ?_
    rintro e w1 ⟨A1, n1, c1, rfl, hn1, ho1, hb1⟩
    rw [List.nil_append, HLL.out] at hn1
    subst hn1
    have hm1 : Mod Non w w1 := Mod.of_below hb1
    clear ho1 hb1
    go_wp2_with fail
    refine (name_any n _ (HL.out.mod0 hm1)).mono ?_
    rintro e w2 ⟨rfl, hm2⟩
    have hm12 := hm1.trans0 hm2
    clear hm2
    go_wp2_with fail
    refine (has_any (nameW n) F d D _ (HH.out.mod0 hm12)).mono ?_
    rintro e w3 ⟨rfl, hm3⟩
    have hm13 := hm12.trans0 hm3
    clear hm3
    rw [HX.out]
    go_wp2_with (go_at_call 9; refine (name_any n _ (HL.out.mod0 hm13)).mono ?_; rintro e w4 ⟨rfl, hm4⟩)
    go_ret
    first
      | exact ⟨by rw [HN.out]; rfl, hm13⟩
      | exact ⟨by rw [HN.out]; rfl, hm13.trans0 hm4⟩

end Go.Proofs.YtgdamcimpgapgaaGreatDoor

/- disk: Remove, the walk; wal.Drop. -/
namespace Go.Proofs.YtgdamcimpgapgaaGreatDoor
open Go.RowKit

set_option maxRecDepth 100000 in
set_option maxHeartbeats 800000 in
theorem remove_bad (F : Nat → Prop) (d : Nat) (D : Dk) (nm : ByteArray) (w : World) (h : DiskIs w F d D) (hs : nm.size ≤ 9223372036854775807) (E : Int)
    (hn : named nm = false ∧ E = 1 ∨ named nm = true ∧ D.off = true ∧ E = 5 ∨ named nm = true ∧ D.off = false ∧ findF D.files nm = none ∧ E = 3) :
    Calls Tryz.prog 42 #[.pointer (some ⟨d, 0, none⟩), .string nm] w (DkPost F d D (.int .i64 E) w) := by
  have HH := Lib.hid h
  have hP : ∀ w', Mod Non w w' → DkPost F d D (.int .i64 E) w (.returned (.int .i64 E)) w' := fun w' e => ⟨rfl, F, HH.out.mod0 e, e.non, fun k hk => .inl hk⟩
  obtain ⟨G, m, kvs, hA, hFd, hFm, hGF, hFp, hFl⟩ := h
  have c2 : w.cell? ⟨d, 2, none⟩ = some (.map (some m)) := hA.blk.cell 2
  have HA := Lib.hid hA
  have HP := Lib.hid hP
  clear hP
  rcases hn with ⟨hn, rfl⟩ | ⟨hn, hoff, rfl⟩ | ⟨hn, hoff, hf, rfl⟩
  · have HN := Lib.hid hn
    have HR : Hid (rightE false D = 1) := rfl
    clear hn hA
    go_enter Tryz.func42, Tryz.ntmps42
    go_wp2_with (first
      | (go_at_call 71; refine (named_any nm _ (by omega)).mono ?_; rintro e w' ⟨rfl, rfl⟩; rw [HN.out])
      | (go_at_call 70; refine (right_any false G d m kvs D _ HA.out).mono ?_; rintro e w' ⟨rfl, rfl⟩; rw [HR.out]))
    go_ret
    exact HP.out _ (Mod.refl _ _)
  · have HN := Lib.hid hn
    have HR : Hid (rightE true D = 5) := by show rightE true D = 5; simp [rightE, hoff]
    clear hn hA hoff
    go_enter Tryz.func42, Tryz.ntmps42
    go_wp2_with (first
      | (go_at_call 71; refine (named_any nm _ (by omega)).mono ?_; rintro e w' ⟨rfl, rfl⟩; rw [HN.out])
      | (go_at_call 70; refine (right_any true G d m kvs D _ HA.out).mono ?_; rintro e w' ⟨rfl, rfl⟩; rw [HR.out]))
    go_ret
    exact HP.out _ (Mod.refl _ _)
  · have HN := Lib.hid hn
    have HR : Hid (rightE true D = 0) := by show rightE true D = 0; simp [rightE, hoff]
    have HV := Lib.hid (lost hA hf)
    clear hn hA hoff hf
    go_enter Tryz.func42, Tryz.ntmps42
    go_wp2_with (first
      | (go_at_call 71; refine (named_any nm _ (by omega)).mono ?_; rintro e w' ⟨rfl, rfl⟩; rw [HN.out])
      | (go_at_call 70; refine (right_any true G d m kvs D _ HA.out).mono ?_; rintro e w' ⟨rfl, rfl⟩; rw [HR.out])
      | (at_lookup; refine wpList_look _ rfl (.tmp 20) (.tmp 21) true rfl strKey HA.out.map Tryz.underlying61 Tryz.underlying9 (zeroFile _) nm rfl rfl _ HV.out ?_))
    go_ret
    exact HP.out _ ((Mod.refl _ _).alloc _)

set_option maxRecDepth 100000 in
set_option maxHeartbeats 1000000 in
theorem remove_has (F : Nat → Prop) (d : Nat) (D : Dk) (nm : ByteArray) (f : Fl) (w : World) (h : DiskIs w F d D) (ok : DkOk D) (hs : nm.size ≤ 9223372036854775807)
    (hn : named nm = true) (hoff : D.off = false) (hf : findF D.files nm = some f) (D' : Dk) (E : Int) (hE : spendE D (-costF f) = E)
    (hD : (if E = 0 then { spendD D (-costF f) with files := delF D.files nm } else spendD D (-costF f)) = D') :
    Calls Tryz.prog 42 #[.pointer (some ⟨d, 0, none⟩), .string nm] w (DkPost F d D' (.int .i64 E) w) := by
  have HD := Lib.hid hD
  have HE := Lib.hid hE
  clear hD hE
  obtain ⟨G, m, kvs, hA, hFd, hFm, hGF, hFp, hFl⟩ := h
  obtain ⟨Af, cf, hg, hrf, hcf1, hcf2, hfG, hfn⟩ := found hA hf
  have hc := find_cost hf
  have hcu : costF f ≤ D.used := by rw [← ok.us]; exact hc
  have hflen : f.bytes.length ≤ 1099511627776 := by
    have h1 := ok.us; have h2 := ok.u1; have h3 := ok.n1
    unfold costF at hc
    omega
  have hcost : Hid ((16 : Int) + nm.size + f.bytes.length = costF f) := by show _ = _; unfold costF; rw [hfn]
  have hnms : nm.size ≤ 100 := by
    unfold named at hn
    simp only [Bool.and_eq_true, decide_eq_true_eq] at hn
    exact hn.2.1
  have hcb : 0 ≤ costF f ∧ costF f ≤ 2000000000000 := by rw [← hcost.out]; omega
  have HN := Lib.hid hn
  have HV := Lib.hid hg
  have HA := Lib.hid hA
  have c2 : w.cell? ⟨d, 2, none⟩ = some (.map (some m)) := hA.blk.cell 2
  have hdl := hA.blk.lt
  have hml := hA.map.lt
  have HR : Hid (rightE true D = 0) := by show rightE true D = 0; simp [rightE, hoff]
  clear hn hoff hfn hg hA hf hc
  obtain ⟨fl, hfl⟩ : ∃ fl, f.bytes.length = fl := ⟨_, rfl⟩
  have HFL := Lib.hid hfl
  rw [hfl] at hflen hcf1 hcost HV
  obtain ⟨co, hco⟩ : ∃ co, costF f = co := ⟨_, rfl⟩
  rw [hco] at hcost hcb hcu HE HD
  have hneg : IntKind.i64.wrap (-co) = -co := IntWalk.i64_in _ (by omega)
  have hneg2 : wrap64 (-co) = -co := by unfold wrap64; omega
  clear hfl hco
  go_enter Tryz.func42, Tryz.ntmps42
  go_wp2_with (first
    | (go_at_call 71; refine (named_any nm _ (by omega)).mono ?_; rintro e w' ⟨rfl, rfl⟩; rw [HN.out])
    | (go_at_call 70; refine (right_any true G d m kvs D _ HA.out).mono ?_; rintro e w' ⟨rfl, rfl⟩; rw [HR.out])
    | (go_at_call 72; refine (cost_any nm fl _ (by omega) (by omega)).mono ?_; rintro e w' ⟨rfl, rfl⟩; rw [hcost.out])
    | (at_lookup; refine wpList_look _ rfl (.tmp 20) (.tmp 21) true rfl strKey HA.out.map Tryz.underlying61 Tryz.underlying9 (zeroFile _) nm rfl rfl _ HV.out ?_))
  refine (spend_any G d m kvs D (-co) _ (HA.out.mod0 ((Mod.refl Non w).alloc _)) ok (by omega)).mono ?_
  rintro e w1 ⟨rfl, hA1, hm1⟩
  rw [HE.out]
  have HA1 := Lib.hid hA1
  have HM1 := Lib.hid hm1
  have c21 : w1.cell? ⟨d, 2, none⟩ = some (.map (some m)) := hA1.blk.cell 2
  clear hA1 hm1 c2 hneg hneg2
  have hmw1 : Hid (Mod F w w1) := ((Mod.refl F w).alloc _).trans HM1.out (fun k hk => by subst hk; exact .inl hFd)
  by_cases hE : E = 0
  · have HD' : Hid ({ spendD D (-co) with files := delF D.files nm } = D') := by
      have := HD.out
      rwa [if_pos hE] at this
    subst hE
    clear HD
    go_wp2_with (first
      | (at_builtin; fail)
      | (refine wpList_del _ rfl (.tmp 40) (.tmp 41) rfl strKey HA1.out.map Tryz.underlying61 Tryz.underlying9 nm rfl rfl ?_
         intro w3 hp3 hm3))
    go_ret
    have hfs := spendD_files D (-co)
    have hA3 := HA1.out.dropped hp3 hm3
    rw [hfs] at hA3
    refine ⟨rfl, dk_fin (by rw [← HD'.out]; exact hA3) hFd hFm hFp hFl (fun k hk => .inl (hGF k hk)) ?_ HA.out.lay.lt⟩
    exact hmw1.out.trans hm3 fun k hk => by subst hk; exact .inl hFm
  · have HD' : Hid (spendD D (-co) = D') := by
      have := HD.out
      rwa [if_neg hE] at this
    have hEb : (E == 0) = false := by simp [hE]
    clear HD hE
    go_wp2_with fail
    go_ret
    exact ⟨rfl, dk_fin (by rw [← HD'.out]; exact HA1.out) hFd hFm hFp hFl (fun k hk => .inl (hGF k hk)) hmw1.out HA.out.lay.lt⟩

/-- (*Disk).Remove. -/
theorem remove_any (F : Nat → Prop) (d : Nat) (D : Dk) (nm : ByteArray) (w : World) (h : DiskIs w F d D) (ok : DkOk D) (hs : nm.size ≤ 9223372036854775807) :
    Calls Tryz.prog 42 #[.pointer (some ⟨d, 0, none⟩), .string nm] w (DkPost F d (removeD D nm) (.int .i64 (removeE D nm)) w) := by
  by_cases hn : named nm = true
  · by_cases hoff : D.off = true
    · rw [show removeE D nm = 5 by simp [removeE, hn, hoff], show removeD D nm = D by simp [removeD, hoff]]
      exact remove_bad F d D nm w h hs 5 (.inr (.inl ⟨hn, hoff, rfl⟩))
    · have hoff' : D.off = false := by simpa using hoff
      cases hf : findF D.files nm with
      | none =>
        rw [show removeE D nm = 3 by simp [removeE, hn, hoff', hf], show removeD D nm = D by simp [removeD, hf]]
        exact remove_bad F d D nm w h hs 3 (.inr (.inr ⟨hn, hoff', hf, rfl⟩))
      | some f =>
        have h1 : removeE D nm = spendE D (-costF f) := by simp [removeE, hn, hoff', hf]
        have h2 : removeD D nm = if spendE D (-costF f) = 0 then { spendD D (-costF f) with files := delF D.files nm } else spendD D (-costF f) := by unfold removeD; rw [if_pos ⟨hn, hoff'⟩, hf]
        rw [h1, h2]
        exact remove_has F d D nm f w h ok hs hn hoff' hf _ _ rfl rfl
  · rw [show removeE D nm = 1 by unfold removeE; rw [if_neg hn], show removeD D nm = D by unfold removeD; rw [if_neg (fun h => hn h.1)]]
    exact remove_bad F d D nm w h hs 1 (.inl ⟨by simpa using hn, rfl⟩)

/-- wal.Drop. -/
def dropE (D : Dk) (n : Int) : Int := if 0 ≤ n ∧ n ≤ 1099511627776 then removeE D (nameW n) else 1
def dropD (D : Dk) (n : Int) : Dk := if 0 ≤ n ∧ n ≤ 1099511627776 then removeD D (nameW n) else D
set_option maxRecDepth 100000 in
set_option maxHeartbeats 400000 in
theorem drop_any (F : Nat → Prop) (d : Nat) (D : Dk) (n : Int) (w : World) (h : DiskIs w F d D) (ok : DkOk D) :
    Calls Tryz.prog 13 #[.pointer (some ⟨d, 0, none⟩), .int .i64 n] w (DkPost F d (dropD D n) (.int .i64 (dropE D n)) w) := by
  have HH := Lib.hid h
  have HO := Lib.hid ok
  have hsz := nameW_size n
  clear h ok
  by_cases hn : 0 ≤ n ∧ n ≤ 1099511627776
  · have HX : Hid (dropD D n = removeD D (nameW n) ∧ dropE D n = removeE D (nameW n)) := ⟨by unfold dropD; rw [if_pos hn], by unfold dropE; rw [if_pos hn]⟩
    rw [HX.out.1, HX.out.2]
    obtain ⟨E, hE⟩ : ∃ E, removeE D (nameW n) = E := ⟨_, rfl⟩
    obtain ⟨D2, hD2⟩ : ∃ D2, removeD D (nameW n) = D2 := ⟨_, rfl⟩
    have HE := Lib.hid hE
    have HD2 := Lib.hid hD2
    rw [hE, hD2]
    clear hE hD2 HX
    go_enter Tryz.func13, Tryz.ntmps13
    go_wp2_with (first
      | (go_at_call 29; refine (none_any F d D _ HH.out HO.out).mono ?_; rintro e w1 ⟨rfl, hm1⟩)
      | (go_at_call 26; refine (right_yes n _ (by omega) (by omega)).mono ?_; rintro e w2 ⟨rfl, rfl⟩)
      | (go_at_call 9; refine (name_any n _ (HH.out.lay.mod0 hm1)).mono ?_; rintro e w3 ⟨rfl, hm3⟩; have hm13 := hm1.trans0 hm3)
      | (go_at_call 42
         refine (remove_any F d D (nameW n) _ (HH.out.mod0 hm13) HO.out (by omega)).mono ?_
         rw [HE.out, HD2.out]
         rintro e w4 ⟨rfl, F4, hd4, hm4, hF4⟩))
    go_ret
    exact ⟨rfl, F4, hd4, hm13.non.trans hm4 (fun _ h => .inl h), fun k hk => (hF4 k hk).imp id fun h => Nat.le_trans hm13.size h⟩
  · have HX : Hid (dropD D n = D ∧ dropE D n = 1) := ⟨by unfold dropD; rw [if_neg hn], by unfold dropE; rw [if_neg hn]⟩
    rw [HX.out.1, HX.out.2]
    clear HX
    go_enter Tryz.func13, Tryz.ntmps13
    go_wp2_with (first
      | (go_at_call 29; refine (none_any F d D _ HH.out HO.out).mono ?_; rintro e w1 ⟨rfl, hm1⟩)
      | (go_at_call 26; refine (right_no n _ (by omega)).mono ?_; rintro e w2 ⟨rfl, rfl⟩))
    go_ret
    exact ⟨rfl, F, HH.out.mod0 hm1, hm1.non, fun k hk => .inl hk⟩

end Go.Proofs.YtgdamcimpgapgaaGreatDoor
