/- sawyerref11: named, Table, number. -/
import Derived.Test.YtdpjnpjmokncdaaGreatDoorB17
import Derived.Test.YtdpjnpjmokncdaaGreatDoorB20
namespace Go.Proofs.YtdpjnpjmokncdaaGreatDoor
open Go.RowKit

set_option maxRecDepth 100000 in
set_option maxHeartbeats 1000000 in
theorem foldR_any (p : ByteArray) (n : Int) (w : World) (hp : p.size ≤ 100) : Calls Tryz.prog 73 #[.string p, .int .i64 n] w fun e w' => e = .returned (.string (foldN p n)) ∧ Mod Non w w' := by
  have HN := Lib.hid (nameR_any n w)
  by_cases h : 0 ≤ n ∧ n ≤ 1099511627776
  · have hdat : (nameW n).data.toList = [119, 97, 108, 47] ++ digF 13 n.toNat := by rw [nameW_yes h.1 h.2, walName_dig (by omega)]
    have hsz : (nameW n).size = 17 := by rw [← size_dat, hdat, List.length_append, digF_len]; rfl
    have hadd := foldN_add (p := p) h
    obtain ⟨nm, hnm⟩ : ∃ nm, nameW n = nm := ⟨_, rfl⟩
    rw [hnm] at HN hdat hsz
    have hne : (nm.toList == ([] : List UInt8)) = false := by
      rw [beq_eq_false_iff_ne, ByteArray.toList_eq]
      intro h
      rw [hdat] at h
      cases h
    have hex : nm.extract 4 17 = ⟨(digF 13 n.toNat).toArray⟩ := by
      apply ByteArray.ext
      apply Array.ext'
      simp only [ByteArray.data_extract, Array.toList_extract, List.extract, hdat]
      rw [show ([119, 97, 108, 47] ++ digF 13 n.toNat : List UInt8).drop 4 = digF 13 n.toNat from rfl, List.take_of_length_le (by rw [digF_len]; omega)]
    have HEX := Lib.hid hex
    have HADD := Lib.hid hadd
    clear hdat hadd hnm hex
    go_enter Tryz.func73, Tryz.ntmps73
    go_wp2_with fail
    refine HN.out.mono ?_
    rintro e w1 ⟨rfl, hm⟩
    have HM := Lib.hid hm
    clear hm
    go_wp2_with fail
    go_ret
    rw [HEX.out, HADD.out]
    exact ⟨rfl, HM.out⟩
  · have hnm : nameW n = ⟨#[]⟩ := by unfold nameW; rw [if_neg h]
    have hfn : foldN p n = ⟨#[]⟩ := by unfold foldN; rw [if_neg h]
    rw [hnm] at HN
    rw [hfn]
    clear hnm hfn
    go_enter Tryz.func73, Tryz.ntmps73
    go_wp2_with fail
    refine HN.out.mono ?_
    rintro e w1 ⟨rfl, hm⟩
    have HM := Lib.hid hm
    clear hm
    go_wp2_with fail
    go_ret
    exact ⟨rfl, HM.out⟩

set_option maxRecDepth 100000 in
theorem tableR_any (n : Int) (w : World) : Calls Tryz.prog 31 #[.int .i64 n] w fun e w' => e = .returned (.string (foldN ⟨#[116, 97, 98, 47]⟩ n)) ∧ Mod Non w w' := by
  go_enter Tryz.func31, Tryz.ntmps31
  go_wp2_with fail
  refine (foldR_any ⟨#[116, 97, 98, 47]⟩ n _ (by decide)).mono ?_
  rintro e w1 ⟨rfl, hm⟩
  have HM := Lib.hid hm
  clear hm
  go_wp2_with fail
  go_ret
  exact ⟨rfl, HM.out⟩

theorem numR_step2 {nm : ByteArray} {k : Nat} (h17 : nm.size = 17) (h4 : 4 ≤ k) (h : k < nm.size) :
    numR ((nm.data.toList.drop 4).take (k + 1 - 4)) 0 = numR ((nm.data.toList.drop 4).take (k - 4)) 0 * 10 + (nm[k].toNat : Int) - 48 := by
  have e : k + 1 - 4 = (k - 4) + 1 := by omega
  rw [e, take_snoc' (nm.data.toList.drop 4) (k - 4) nm[k] (by
    rw [List.getElem?_drop, show 4 + (k - 4) = k by omega]
    have h2 : k < nm.data.toList.length := by rw [size_dat]; exact h
    rw [List.getElem?_eq_getElem h2]
    rfl), numR_snoc]
theorem extract_pre {p nm : ByteArray} {v : Int} (hp : p.size = 4) (h : foldN p v = nm) (h17 : nm.size = 17) : nm.extract 0 4 = p := by
  have hv := foldN_right h (by omega)
  have hd : nm.data.toList = p.data.toList ++ digF 13 v.toNat := by rw [← h, foldN_dat hv]
  have hl : p.data.toList.length = 4 := by rw [size_dat]; exact hp
  apply ByteArray.ext
  apply Array.ext'
  simp only [ByteArray.data_extract, Array.toList_extract, List.extract, hd]
  rw [List.drop_zero, Nat.sub_zero, ← hl, List.take_left]

set_option maxRecDepth 100000 in
set_option maxHeartbeats 2000000 in
theorem numberR_any (p nm : ByteArray) (w : World) (hp : p.size = 4) (h2 : nm.size ≤ 1000000) :
    Calls Tryz.prog 111 #[.string p, .string nm] w fun e w' => e = .returned (.int .i64 ((numF p nm).getD (-1))) ∧ Mod Non w w' := by
  obtain ⟨R, hR⟩ : ∃ R : Int, (numF p nm).getD (-1) = R := ⟨_, rfl⟩
  rw [hR]
  by_cases h17 : nm.size = 17
  · obtain ⟨z, hz⟩ : ∃ z, numR (nm.data.toList.drop 4) 0 = z := ⟨_, rfl⟩
    have hR1 : foldN p z = nm → R = z := fun h => by
      rw [← hR]
      unfold numF
      rw [hp, hz, if_pos h17, if_pos h]
      rfl
    have hR2 : foldN p z ≠ nm → R = -1 := fun h => by
      rw [← hR]
      unfold numF
      rw [hp, hz, if_pos h17, if_neg h]
      rfl
    have HR1 := Lib.hid hR1
    have HR2 := Lib.hid hR2
    have HZ0 := Lib.hid hz
    have hzs : ((nm.size : Int) != 17) = false := by simp [h17]
    have hsz : nm.size ≤ 17 := by omega
    have hsz2 : 17 ≤ nm.size := by omega
    have H17 := Lib.hid h17
    obtain ⟨px, hpx⟩ : ∃ px, nm.extract 0 4 = px := ⟨_, rfl⟩
    by_cases hpp : px = p
    · have hpl : (px.toList != p.toList) = false := by rw [hpp]; simp
      have hpl2 : (px.toList == p.toList) = true := by rw [hpp]; simp
      clear hR hR1 hR2 hz h17
      go_enter Tryz.func111, Tryz.ntmps111
      go_wp2_with fail
      have HPX := Lib.hid hpx
      clear hzs hpl hpl2 hpx
      go_loop [5, 6] (fun x i => ∃ (q : Nat) (z : Int), 4 ≤ q ∧ q ≤ 17 ∧ i = .int .i64 q ∧ x = .int .i64 z ∧ Hid (z = numR ((nm.data.toList.drop 4).take (q - 4)) 0)) (fun _ i => 17 - (intOf i).toNat)
      case atStart => exact ⟨4, 0, by omega, by omega, rfl, rfl, by show _ = _; simp [numR]⟩
      case round =>
        obtain ⟨q, y, hq4, hq17, rfl, rfl, HZ⟩ := hrel
        have hzb : -230000000000000 ≤ y ∧ y ≤ 230000000000000 := by
          rw [HZ.out]
          exact numR_le _ (by rw [List.length_take]; omega)
        obtain ⟨hz0, hz1⟩ := hzb
        by_cases hq : q < 17
        · have hqs : q < nm.size := by omega
          have HST := Lib.hid (numR_step2 H17.out hq4 hqs)
          have hcb : nm[q].toNat < 256 := nm[q].toNat_lt
          have hq0 : (0 : Int) ≤ (q : Int) := by omega
          have hq1 : (q : Int) < (nm.size : Int) := by omega
          have hqi : (q : Int) < 17 := by omega
          go_wp2_with fail
          go_round
          case rel => exact ⟨q + 1, y * 10 + (nm[q].toNat : Int) - 48, by omega, by omega, by go_num, rfl, by show _ = _; rw [HST.out, HZ.out]⟩
          case measure => simp [intOf]; omega
        · obtain rfl : q = 17 := by omega
          have hzE : y = z := by
            rw [HZ.out, List.take_of_length_le (by rw [List.length_drop, size_dat]; omega), HZ0.out]
          clear HZ HZ0
          subst hzE
          obtain ⟨nv, hnv⟩ : ∃ nv, foldN p y = nv := ⟨_, rfl⟩
          have hnd : ∀ W, Calls Tryz.prog 73 #[.string p, .int .i64 y] W fun e w' => e = .returned (.string nv) ∧ Mod Non W w' := fun W => by
            have := foldR_any p y W (by omega)
            rw [hnv] at this
            exact this
          have HND := Lib.hid hnd
          rw [hnv] at HR1 HR2
          by_cases hv : nv = nm
          · have HRE := Lib.hid (HR1.out hv)
            have hq : (nv.toList == nm.toList) = true := by rw [hv]; simp
            have hq' : (nv.toList != nm.toList) = false := by rw [hv]; simp
            clear hv hnv hnd
            go_wp2_with fail
            refine (HND.out _).mono ?_
            rintro e w1 ⟨rfl, hm⟩
            have HM := Lib.hid hm
            clear hm
            go_wp2_with fail
            go_ret
            exact ⟨by rw [HRE.out]; rfl, HM.out⟩
          · have HRE := Lib.hid (HR2.out hv)
            have hq : (nv.toList == nm.toList) = false := by
              rw [beq_eq_false_iff_ne]
              intro h
              rw [ByteArray.toList_eq, ByteArray.toList_eq] at h
              exact hv (ByteArray.ext (Array.ext' h))
            have hq' : (nv.toList != nm.toList) = true := by rw [bne, hq]; rfl
            clear hv hnv hnd
            go_wp2_with fail
            refine (HND.out _).mono ?_
            rintro e w1 ⟨rfl, hm⟩
            have HM := Lib.hid hm
            clear hm
            go_wp2_with fail
            go_ret
            exact ⟨by rw [HRE.out]; rfl, HM.out⟩
    · have hpl2 : (px.toList == p.toList) = false := by
        rw [beq_eq_false_iff_ne]
        intro h
        rw [ByteArray.toList_eq, ByteArray.toList_eq] at h
        exact hpp (ByteArray.ext (Array.ext' h))
      have hpl : (px.toList != p.toList) = true := by rw [bne, hpl2]; rfl
      have HRE := Lib.hid (HR2.out fun h => hpp (by rw [← hpx]; exact extract_pre hp h H17.out))
      clear hR hR1 hR2 hz h17
      go_enter Tryz.func111, Tryz.ntmps111
      go_wp2_with fail
      go_ret
      exact ⟨by rw [HRE.out]; rfl, Mod.refl _ _⟩
  · have hRE : R = -1 := by
      rw [← hR]
      unfold numF
      rw [hp, if_neg h17]
      rfl
    have hzs : ((nm.size : Int) != 17) = true := by simp; omega
    have hzs2 : ((nm.size : Int) == 17) = false := by simp; omega
    have HRE := Lib.hid hRE
    clear hR hRE h17
    go_enter Tryz.func111, Tryz.ntmps111
    go_wp2_with fail
    go_ret
    exact ⟨by rw [HRE.out]; rfl, Mod.refl _ _⟩

end Go.Proofs.YtdpjnpjmokncdaaGreatDoor
