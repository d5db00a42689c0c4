/- cat.named, cat.number: a folder's names. -/
import Derived.Test.YtdpjnpjmokncdaaGreatDoorB18
import Derived.Test.YtdpjnpjmokncdaaGreatDoorB19
namespace Go.Proofs.YtdpjnpjmokncdaaGreatDoor
open Go.RowKit

/-- the name of number n in a folder, "" where the number may not be. -/
def foldN (p : ByteArray) (n : Int) : ByteArray := if 0 ≤ n ∧ n ≤ 1099511627776 then ⟨(p.data.toList ++ digF 13 n.toNat).toArray⟩ else ⟨#[]⟩
/-- the number of a name in a folder. -/
def numF (p nm : ByteArray) : Option Int := if nm.size = p.size + 13 then (if foldN p (numR (nm.data.toList.drop p.size) 0) = nm then some (numR (nm.data.toList.drop p.size) 0) else none) else none

theorem foldN_size {p : ByteArray} {n : Int} (h : 0 ≤ n ∧ n ≤ 1099511627776) : (foldN p n).size = p.size + 13 := by
  unfold foldN
  rw [if_pos h, size_mk, List.length_append, digF_len, size_dat]
theorem foldN_0 {p : ByteArray} {n : Int} (h : ¬ (0 ≤ n ∧ n ≤ 1099511627776)) : (foldN p n).size = 0 := by
  unfold foldN
  rw [if_neg h]
  rfl
theorem foldN_dat {p : ByteArray} {n : Int} (h : 0 ≤ n ∧ n ≤ 1099511627776) : (foldN p n).data.toList = p.data.toList ++ digF 13 n.toNat := by
  unfold foldN
  rw [if_pos h]
theorem foldN_drop {p : ByteArray} {n : Int} (h : 0 ≤ n ∧ n ≤ 1099511627776) : (foldN p n).data.toList.drop p.size = digF 13 n.toNat := by
  rw [foldN_dat h, ← size_dat p, List.drop_left]
theorem foldN_right {p nm : ByteArray} {v : Int} (h : foldN p v = nm) (hn : nm.size ≠ 0) : 0 ≤ v ∧ v ≤ 1099511627776 := by
  by_cases hr : 0 ≤ v ∧ v ≤ 1099511627776
  · exact hr
  · rw [← h, foldN_0 hr] at hn
    exact absurd rfl hn
theorem numF_name {p : ByteArray} {v : Int} (h : 0 ≤ v ∧ v ≤ 1099511627776) : numF p (foldN p v) = some v := by
  have hd : numR ((foldN p v).data.toList.drop p.size) 0 = v := by
    rw [foldN_drop h, numR_digF 13 _ (Nat.lt_of_le_of_lt (show v.toNat ≤ 1099511627776 by omega) (by decide))]
    omega
  unfold numF
  rw [if_pos (foldN_size h), hd, if_pos rfl]
theorem numF_some {p nm : ByteArray} {v : Int} (h : numF p nm = some v) : (0 ≤ v ∧ v ≤ 1099511627776) ∧ foldN p v = nm := by
  unfold numF at h
  split at h
  · rename_i h13
    split at h
    · rename_i he
      cases h
      exact ⟨foldN_right he (by omega), he⟩
    · cases h
  · cases h
theorem numF_not {p nm : ByteArray} (h : numF p nm = none) (hn : nm.size ≠ 0) (v : Int) : foldN p v ≠ nm := fun e => by
  have hv := foldN_right e hn
  rw [← e, numF_name hv] at h
  cases h
theorem foldN_inj {p : ByteArray} {a b : Int} (ha : 0 ≤ a ∧ a ≤ 1099511627776) (h : foldN p a = foldN p b) : a = b := by
  have h1 := numF_name (p := p) ha
  rw [h] at h1
  have hb : 0 ≤ b ∧ b ≤ 1099511627776 := foldN_right h.symm (by rw [foldN_size ha]; omega)
  rw [numF_name hb] at h1
  exact (Option.some.inj h1).symm
theorem hasP (a b : List UInt8) : Lib.hasPrefix (a ++ b) a = true ∧ Lib.trimPrefix (a ++ b) a = b := by
  have h1 : Lib.hasPrefix (a ++ b) a = true := by
    unfold Lib.hasPrefix
    simp
  exact ⟨h1, by unfold Lib.trimPrefix; rw [if_pos h1, List.drop_left]⟩
theorem foldN_add {p : ByteArray} {n : Int} (h : 0 ≤ n ∧ n ≤ 1099511627776) : p ++ (⟨(digF 13 n.toNat).toArray⟩ : ByteArray) = foldN p n := by
  unfold foldN
  rw [if_pos h]
  apply ByteArray.ext
  simp [ByteArray.data_append]

set_option maxRecDepth 100000 in
set_option maxHeartbeats 1000000 in
theorem fold_any (p : ByteArray) (n : Int) (w : World) (hL : Lay w) (hp : p.size ≤ 100) : Calls Tryz.prog 36 #[.string p, .int .i64 n] w fun e w' => e = .returned (.string (foldN p n)) ∧ Mod Non w w' := by
  have HN := Lib.hid (name_any n w hL)
  clear hL
  by_cases h : 0 ≤ n ∧ n ≤ 1099511627776
  · obtain ⟨d1, d2⟩ := hasP [119, 97, 108, 47] (digF 13 n.toNat)
    have hdat : (nameW n).data.toList = [119, 97, 108, 47] ++ digF 13 n.toNat := by rw [nameW_yes h.1 h.2, walName_dig (by omega)]
    have hadd := foldN_add (p := p) h
    obtain ⟨nm, hnm⟩ : ∃ nm, nameW n = nm := ⟨_, rfl⟩
    obtain ⟨dg, hdg⟩ : ∃ dg : ByteArray, (⟨(digF 13 n.toNat).toArray⟩ : ByteArray) = dg := ⟨_, rfl⟩
    rw [hnm] at HN hdat
    rw [hdg] at hadd
    have hc : ∀ W, Calls Tryz.prog 75 #[.string nm, .string ⟨#[119, 97, 108, 47]⟩] W fun e w' => e = .returned (.tuple #[.string dg, .bool true]) ∧ w' = W := fun W =>
      (Tryz.strings_CutPrefix nm ⟨#[119, 97, 108, 47]⟩ W).mono fun e w' h => by
        rw [hdat] at h
        rw [show (ByteArray.mk #[119, 97, 108, 47]).data.toList = [119, 97, 108, 47] from rfl, d1, d2, hdg] at h
        exact h
    have HC := Lib.hid hc
    have HADD := Lib.hid hadd
    have hds : dg.size = 13 := by rw [← hdg, size_mk, digF_len]
    clear hc hadd d1 d2 hdat hnm hdg
    go_enter Tryz.func36, Tryz.ntmps36
    go_wp2_with fail
    refine HN.out.mono ?_
    rintro e w1 ⟨rfl, hm⟩
    have HM := Lib.hid hm
    clear hm
    go_wp2_with fail
    refine (HC.out w1).mono ?_
    rintro e w2 ⟨rfl, rfl⟩
    go_wp2_with fail
    go_ret
    rw [← HADD.out]
    exact ⟨rfl, HM.out⟩
  · have hnm : nameW n = ⟨#[]⟩ := by unfold nameW; rw [if_neg h]
    have hfn : foldN p n = ⟨#[]⟩ := by unfold foldN; rw [if_neg h]
    rw [hnm] at HN
    rw [hfn]
    have hc : ∀ W, Calls Tryz.prog 75 #[.string ⟨#[]⟩, .string ⟨#[119, 97, 108, 47]⟩] W fun e w' => e = .returned (.tuple #[.string ⟨#[]⟩, .bool false]) ∧ w' = W := fun W =>
      Tryz.strings_CutPrefix ⟨#[]⟩ ⟨#[119, 97, 108, 47]⟩ W
    have HC := Lib.hid hc
    clear hc hnm hfn
    go_enter Tryz.func36, Tryz.ntmps36
    go_wp2_with fail
    refine HN.out.mono ?_
    rintro e w1 ⟨rfl, hm⟩
    have HM := Lib.hid hm
    clear hm
    go_wp2_with fail
    refine (HC.out w1).mono ?_
    rintro e w2 ⟨rfl, rfl⟩
    go_wp2_with fail
    go_ret
    exact ⟨rfl, HM.out⟩

end Go.Proofs.YtdpjnpjmokncdaaGreatDoor

/- cat.number. -/
namespace Go.Proofs.YtdpjnpjmokncdaaGreatDoor
open Go.RowKit

/-- what number answers. -/
def NuPost (p nm : ByteArray) (w : World) (e : Ending) (w' : World) : Prop :=
  ∃ x b, e = .returned (.tuple #[.int .i64 x, .bool b]) ∧ Mod Non w w' ∧ (match numF p nm with | some v => x = v ∧ b = true | none => b = false)

set_option maxRecDepth 100000 in
set_option maxHeartbeats 2000000 in
theorem catNum_any (p nm : ByteArray) (w : World) (hL : Lay w) (hE : Errs w) (hp : p.size ≤ 100) (h1 : 1 ≤ nm.size) (h2 : nm.size ≤ 200) :
    Calls Tryz.prog 43 #[.string p, .string nm] w (NuPost p nm w) := by
  have HL := Lib.hid hL
  have HE := Lib.hid hE
  obtain ⟨dg, hdg⟩ : ∃ dg : ByteArray, (⟨(Lib.trimPrefix nm.data.toList p.data.toList).toArray⟩ : ByteArray) = dg := ⟨_, rfl⟩
  obtain ⟨hb, hhb⟩ : ∃ hb, Lib.hasPrefix nm.data.toList p.data.toList = hb := ⟨_, rfl⟩
  have hds : dg.size ≤ 200 := by
    rw [← hdg, size_mk]
    exact Nat.le_trans (trim_len _ _) (by rw [size_dat]; exact h2)
  have hc : ∀ W, Calls Tryz.prog 75 #[.string nm, .string p] W fun e w' => e = .returned (.tuple #[.string dg, .bool hb]) ∧ w' = W := fun W =>
    (Tryz.strings_CutPrefix nm p W).mono fun e w' h => by
      rw [hdg, hhb] at h
      exact h
  have HC := Lib.hid hc
  clear hL hE hc
  cases hsg : numF p nm with
  | some v =>
    obtain ⟨hv, hf⟩ := numF_some hsg
    have hdat : nm.data.toList = p.data.toList ++ digF 13 v.toNat := by rw [← hf, foldN_dat hv]
    obtain ⟨d1, d2⟩ := hasP p.data.toList (digF 13 v.toNat)
    rw [hdat] at hhb hdg
    rw [d1] at hhb
    rw [d2] at hdg
    subst hhb
    have hat : Lib.atoiAll dg.data.toList = .ok v := by
      rw [← hdg]
      show Lib.atoiAll (digF 13 v.toNat) = _
      rw [Lib.atoiAll_short _ (by rw [digF_len]; omega), atoi_digF (k := 12) (Nat.lt_of_le_of_lt (show v.toNat ≤ 1099511627776 by omega) (by decide))]
      show Lib.NumEnd.ok ((v.toNat : Nat) : Int) = _
      rw [Int.toNat_of_nonneg hv.1]
    have HAT := Lib.hid hat
    have HF := Lib.hid hf
    have hfin : ∀ w', Mod Non w w' → NuPost p nm w (.returned (.tuple #[.int .i64 v, .bool true])) w' := fun w' hm => ⟨v, true, rfl, hm, by rw [hsg]; exact ⟨rfl, rfl⟩⟩
    have HFIN := Lib.hid hfin
    clear hdat d1 d2 hdg hat hf hsg hfin
    go_enter Tryz.func43, Tryz.ntmps43
    go_wp2_with fail
    refine (HC.out _).mono ?_
    rintro e w1 ⟨rfl, rfl⟩
    go_wp2_with fail
    refine (atoi_ok dg v _ (by omega) HAT.out).mono ?_
    rintro e w3 ⟨rfl, hm3⟩
    have HM3 := Lib.hid hm3
    clear hm3
    go_wp2_with fail
    refine (fold_any p v _ (HL.out.mod0 HM3.out) hp).mono ?_
    rw [HF.out]
    rintro e w4 ⟨rfl, hm4⟩
    have HM4 := Lib.hid (HM3.out.trans0 hm4)
    clear hm4
    go_wp2_with fail
    go_ret2
    exact HFIN.out _ HM4.out
  | none =>
    have hfin : ∀ x w', Mod Non w w' → NuPost p nm w (.returned (.tuple #[.int .i64 x, .bool false])) w' := fun x w' hm => ⟨x, false, rfl, hm, by rw [hsg]⟩
    have HFIN := Lib.hid hfin
    by_cases hA : ∃ v, Lib.atoiAll dg.data.toList = .ok v
    · obtain ⟨v, hA⟩ := hA
      have hne := numF_not hsg (by omega) v
      obtain ⟨nv, hnv⟩ : ∃ nv, foldN p v = nv := ⟨_, rfl⟩
      rw [hnv] at hne
      have HAT := Lib.hid hA
      have HNV := Lib.hid hnv
      have hbq : (nv.toList == nm.toList) = false := by
        rw [beq_eq_false_iff_ne]
        intro h
        rw [ByteArray.toList_eq, ByteArray.toList_eq] at h
        exact hne (ByteArray.ext (Array.ext' h))
      clear hsg hfin hdg hA hnv hhb
      cases hb with
      | true =>
        go_enter Tryz.func43, Tryz.ntmps43
        go_wp2_with fail
        refine (HC.out _).mono ?_
        rintro e w1 ⟨rfl, rfl⟩
        go_wp2_with fail
        refine (atoi_ok dg v _ (by omega) HAT.out).mono ?_
        rintro e w3 ⟨rfl, hm3⟩
        have HM3 := Lib.hid hm3
        clear hm3
        go_wp2_with fail
        refine (fold_any p v _ (HL.out.mod0 HM3.out) hp).mono ?_
        rw [HNV.out]
        rintro e w4 ⟨rfl, hm4⟩
        have HM4 := Lib.hid (HM3.out.trans0 hm4)
        clear hm4
        go_wp2_with fail
        go_ret2
        exact HFIN.out _ _ HM4.out
      | false =>
        go_enter Tryz.func43, Tryz.ntmps43
        go_wp2_with fail
        refine (HC.out _).mono ?_
        rintro e w1 ⟨rfl, rfl⟩
        go_wp2_with fail
        refine (atoi_ok dg v _ (by omega) HAT.out).mono ?_
        rintro e w3 ⟨rfl, hm3⟩
        have HM3 := Lib.hid hm3
        clear hm3
        go_wp2_with fail
        go_ret2
        exact HFIN.out _ _ HM3.out
    · have HNA : Hid (∀ v, Lib.atoiAll dg.data.toList ≠ .ok v) := fun v h => hA ⟨v, h⟩
      clear hsg hfin hdg hA hhb
      cases hb with
      | true =>
        go_enter Tryz.func43, Tryz.ntmps43
        go_wp2_with fail
        refine (HC.out _).mono ?_
        rintro e w1 ⟨rfl, rfl⟩
        go_wp2_with fail
        refine (atoi_no dg _ HE.out (by omega) HNA.out).mono ?_
        rintro e w3 ⟨x, N, rfl, hm3⟩
        have HM3 := Lib.hid hm3
        clear hm3
        go_wp2_with fail
        go_ret2
        exact HFIN.out _ _ HM3.out
      | false =>
        go_enter Tryz.func43, Tryz.ntmps43
        go_wp2_with fail
        refine (HC.out _).mono ?_
        rintro e w1 ⟨rfl, rfl⟩
        go_wp2_with fail
        refine (atoi_no dg _ HE.out (by omega) HNA.out).mono ?_
        rintro e w3 ⟨x, N, rfl, hm3⟩
        have HM3 := Lib.hid hm3
        clear hm3
        go_wp2_with fail
        go_ret2
        exact HFIN.out _ _ HM3.out

end Go.Proofs.YtdpjnpjmokncdaaGreatDoor
