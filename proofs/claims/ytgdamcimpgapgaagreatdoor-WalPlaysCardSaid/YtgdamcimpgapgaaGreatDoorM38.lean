/- wal.Segments over whatever names. -/
import Derived.Test.YtgdamcimpgapgaaGreatDoorM37
import Derived.Test.YtgdamcimpgapgaaGreatDoorM25
import Derived.Shelf.Strconv.AtoiAll
namespace Go.Proofs.YtgdamcimpgapgaaGreatDoor
open Go.RowKit Go.Shelf

/-- the two error variables of strconv hold errors. -/
def ErrCell (w : World) (g : Nat) : Prop := ∃ t p, w.cell? ⟨g, 0, none⟩ = some (.iface t p)
structure Errs (w : World) : Prop where
  sy : ErrCell w 0
  rg : ErrCell w 1
theorem ErrCell.mod0 {w w' : World} {g : Nat} (h : ErrCell w g) (hm : Mod Non w w') : ErrCell w' g := by
  obtain ⟨t, p, h⟩ := h
  exact ⟨t, p, hm.cell h (fun h => h)⟩
theorem Errs.mod0 {w w' : World} (h : Errs w) (hm : Mod Non w w') : Errs w' := ⟨h.sy.mod0 hm, h.rg.mod0 hm⟩

theorem atoi_ok (s : ByteArray) (v : Int) (w : World) (hl : s.size ≤ 281474976710656) (h : Lib.atoiAll s.data.toList = .ok v) :
    Calls Tryz.prog 39 #[.string s] w fun e w' => e = .returned (.tuple #[.int .i64 v, .nilIface]) ∧ Mod Non w w' :=
  (Tryz.strconv_Atoi_ok s (by omega) v h w).mono fun e w' ⟨he, hw⟩ => ⟨he, by
    rcases hw with rfl | ⟨t, rfl⟩
    · exact Mod.refl _ _
    · exact Mod.of_below (Lib.bytesWorld_below _ _ _)⟩
theorem atoi_no (s : ByteArray) (w : World) (hE : Errs w) (hl : s.size ≤ 281474976710656) (h : ∀ v, Lib.atoiAll s.data.toList ≠ .ok v) :
    Calls Tryz.prog 39 #[.string s] w fun e w' => ∃ (x : Int) (N : Nat), e = .returned (.tuple #[.int .i64 x, .iface 147 (.pointer (some ⟨N, 0, none⟩))]) ∧ Mod Non w w' := by
  rcases hA : Lib.atoiAll s.data.toList with v | _ | _
  · exact absurd hA (h v)
  · obtain ⟨t, p, hc⟩ := hE.sy
    exact (Any.strconv_Atoi_syntax Tryz.laysC172 s hl hA _ w hc (.inr ⟨_, _, rfl⟩)).mono fun e w' ⟨N, he, _, _, hb⟩ => ⟨_, N, he, Mod.of_below hb⟩
  · obtain ⟨t, p, hc⟩ := hE.rg
    exact (Tryz.strconv_Atoi_range s hl hA _ w hc (.inr ⟨_, _, rfl⟩)).mono fun e w' ⟨N, he, _, _, hb⟩ => ⟨_, N, he, Mod.of_below hb⟩

theorem namesA_mem {D : Dk} {L : List ByteArray} (hL : NamesAre D L) : ∀ nm ∈ L, ∃ f ∈ D.files, f.name = nm := by
  obtain ⟨ss, hp, rfl⟩ := hL
  intro nm hn
  obtain ⟨l, hl, rfl⟩ := List.mem_map.1 hn
  have h2 := hp.mem_iff.1 (List.mem_mergeSort.1 hl)
  obtain ⟨f, hf, he⟩ := List.mem_map.1 h2
  exact ⟨f, hf, by rw [← he]⟩
theorem named_pos {s : ByteArray} (h : named s = true) : 1 ≤ s.size := by
  unfold named at h
  simp only [Bool.and_eq_true, decide_eq_true_eq] at h
  exact h.1
theorem size_mk (l : List UInt8) : (⟨l.toArray⟩ : ByteArray).size = l.length := List.size_toArray
theorem size_dat (s : ByteArray) : s.data.toList.length = s.size := Array.length_toList
theorem trim_len (l k : List UInt8) : (Lib.trimPrefix l k).length ≤ l.length := by
  unfold Lib.trimPrefix
  split
  · simp
  · exact Nat.le_refl _

/-- between two rounds. -/
structure SgM (w : World) (L : List ByteArray) (j : Nat) (ys : List Int) (wr : World) : Prop where
  mod : Mod Non w wr
  eq : ys = (L.take j).filterMap segR

set_option maxRecDepth 100000 in
set_option maxHeartbeats 2000000 in
theorem segsA_any (F : Nat → Prop) (d : Nat) (D : Dk) (w : World) (h : DiskIs w F d D) (ok : DkOk D) (hE : Errs w) :
    Calls Tryz.prog 11 #[.pointer (some ⟨d, 0, none⟩)] w fun e w' => ∃ A n c L, e = .returned (.slice A n c) ∧ NamesAre D L ∧ Rd w' A n ((L.filterMap segR).map i64c) ∧ n ≤ c ∧ c ≤ 9223372036854775807 ∧ Mod Non w w' := by
  have HH := Lib.hid h
  have hfl := files_len ok
  have HO := Lib.hid ok
  have HLY := Lib.hid h.lay
  have HER := Lib.hid hE
  clear h ok hE
  go_enter Tryz.func11, Tryz.ntmps11
  go_wp2_with (go_at_call 37; refine (names_any F d D _ HH.out HO.out).mono ?_; rintro e w1 ⟨An, nn, cn, L, rfl, hL, hr1, hnn, hcn, hbn, hb1⟩)
  have hm1 : Mod Non w w1 := Mod.of_below hb1
  have hnl : L.length = nn := by have := hr1.1; simpa using this
  have hnn2 : nn ≤ 100000000000 := by
    obtain ⟨ss, hp, hLe⟩ := hL
    have h1 := hp.length_eq
    have h2 : L.length = ss.length := by rw [hLe]; simp
    simp only [List.length_map] at h1
    omega
  have hnms : ∀ nm ∈ L, nm.size ≤ 100 ∧ 1 ≤ nm.size := fun nm hn => by
    obtain ⟨f, hf, rfl⟩ := namesA_mem hL nm hn
    exact ⟨named_size (HO.out.nm f hf), named_pos (HO.out.nm f hf)⟩
  have HNL := Lib.hid hnl
  have HNM := Lib.hid hnms
  have HL := Lib.hid hL
  have HM1 := Lib.hid hm1
  have HR1 := Lib.hid hr1
  have hs1 := hm1.size
  clear hnl hnms hL hm1 hr1 hb1 hfl
  go_loopw [3, 13] (fun v i wr => ∃ (j k : Nat) (ys : List Int) (cv : Nat) (Av : Option Addr), j ≤ nn ∧ k ≤ j ∧ i = .int .i64 j ∧ v = .slice Av k cv ∧ wr.ownsRow w1.heap.size 3 1 (.slice Av k cv) k (ys.map i64c) ∧ Hid (SgM w1 L j ys wr)) (fun _ i _ => nn - (intOf i).toNat)
  case atStart => exact ⟨0, 0, [], 0, none, Nat.zero_le _, Nat.le_refl _, rfl, rfl, World.ownsRow_nil _ _ _ _, Mod.refl _ _, rfl⟩
  case round =>
    obtain ⟨j, k, ys, cv, Av, hj, hk, rfl, rfl, hown, HIR⟩ := hrel
    have HMR := Lib.hid HIR.out.mod
    have HYS := Lib.hid HIR.out.eq
    clear HIR
    by_cases hlt : j < nn
    · obtain ⟨b, o, rfl, u, hu, hc⟩ := (HR1.out.mod0 HMR.out).at_ hlt
      rw [List.getElem?_map] at hu
      cases hx : L[j]? with
      | none => rw [hx] at hu; cases hu
      | some nm =>
        rw [hx] at hu
        simp only [Option.map_some, Option.some.injEq] at hu
        subst hu
        obtain ⟨hs100, hs1'⟩ := HNM.out nm (List.mem_of_getElem? hx)
        have HX := Lib.hid hx
        have HOWN := Lib.hid hown
        have HMr := Lib.hid ((HM1.out.trans0 HMR.out))
        have hrow := hown.lt
        have hszr := HMR.out.size
        clear hx hown
        obtain ⟨dg, hdg⟩ : ∃ dg : ByteArray, (⟨(Lib.trimPrefix nm.data.toList (ByteArray.mk #[119, 97, 108, 47]).data.toList).toArray⟩ : ByteArray) = dg := ⟨_, rfl⟩
        have HP2 := Lib.hid hdg
        have hds : dg.size ≤ 100 := by
          rw [← hdg, size_mk]
          exact Nat.le_trans (trim_len _ _) (by rw [size_dat]; exact hs100)
        clear hdg
        cases hsg : segR nm with
        | some v =>
          obtain ⟨hv0, hv1, hnm⟩ := segR_some hsg
          have HSG := Lib.hid hsg
          obtain ⟨hp1, hp2⟩ := cut_name (x := v.toNat) (by omega)
          have HP1 : Hid (Lib.hasPrefix nm.data.toList (ByteArray.mk #[119, 97, 108, 47]).data.toList = true) := by rw [hnm]; exact hp1
          have HAT : Hid (Lib.atoiAll dg.data.toList = .ok v) := by
            show _ = _
            rw [← HP2.out, hnm]
            show Lib.atoiAll (Lib.trimPrefix (walName v.toNat).data.toList [119, 97, 108, 47]) = _
            rw [hp2, Lib.atoiAll_short _ (by rw [digF_len]; omega), atoi_digF (k := 12) (Nat.lt_of_le_of_lt (show v.toNat ≤ 1099511627776 by omega) (by decide))]
            show Lib.NumEnd.ok ((v.toNat : Nat) : Int) = _
            rw [Int.toNat_of_nonneg hv0]
          have HNW : Hid (nameW v = nm) := by show _ = _; rw [nameW_yes hv0 hv1, ← hnm]
          clear hp1 hp2 hnm hsg
          go_wp2_with (first
            | (go_at_call 38
               refine (Tryz.strings_CutPrefix nm ⟨#[119, 97, 108, 47]⟩ _).mono ?_
               rw [HP1.out, HP2.out]
               rintro e w2 ⟨rfl, hw2⟩
               have hw2' := hw2.symm
               subst hw2')
            | (go_at_call 39
               refine (atoi_ok dg v _ (by omega) HAT.out).mono ?_
               rintro e w3 ⟨rfl, hm3⟩
               have HM3 := Lib.hid hm3
               clear hm3)
            | (go_at_call 9
               refine (name_any v _ ((HLY.out.mod0 HMr.out).mod0 HM3.out)).mono ?_
               rw [HNW.out]
               rintro e w4 ⟨rfl, hm4⟩
               have HM4 := Lib.hid (HM3.out.trans0 hm4)
               have hsz4 := HM4.out.size
               have hown4 := own_mod (S := Non) HOWN.out HM4.out (fun _ _ h => h)
               have HONE := Lib.hid (one_int w4 3 v)
               clear hm4)
            | (at_builtin
               refine wpList_appI Tryz.underlying22 rowI _ rfl (.tmp 38) (.tmp 40) rfl w1.heap.size (.slice Av k cv) k ys rfl (hown4.alloc _) _ 1 1 [v] rfl HONE.out (by omega) (by simp; omega) ?_
               intro A' c' w' hc' hcm' hown' hg' hat'))
          have hmg : Mod (fun g => (Value.slice Av k cv).ownBlock = some g) (w4.alloc (.cells #[.int .i64 v] 3)) w' := Mod.of_grown hg' fun _ h => h
          go_roundw
          case rel =>
            refine ⟨j + 1, k + 1, ys ++ [v], c', A', by omega, by omega, by go_num, rfl, ?_, ?_, ?_⟩
            · rw [List.map_append] at hown'
              rw [List.map_append]
              exact hown'
            · exact ((HMR.out.trans0 HM4.out).alloc _).trans hmg fun g hg => .inr (hrow g hg).1
            · show _ = _
              rw [segs_snoc HX.out, HSG.out, HYS.out]
              rfl
          case measure => simp [intOf]; omega
        | none =>
          have HSG := Lib.hid hsg
          by_cases hp : Lib.hasPrefix nm.data.toList (ByteArray.mk #[119, 97, 108, 47]).data.toList = true
          · have HP1 := Lib.hid hp
            by_cases hA : ∃ v, Lib.atoiAll dg.data.toList = .ok v
            · obtain ⟨v, hA⟩ := hA
              have hne := segR_not hsg (by omega) v
              have HAT := Lib.hid hA
              obtain ⟨nv, hnv⟩ : ∃ nv, nameW v = nv := ⟨_, rfl⟩
              have HNV := Lib.hid hnv
              have hq : (nv.toList == nm.toList) = false := beq_eq_false_iff_ne.2 fun e => hne (by rw [hnv]; exact keyF_inj (by rwa [ByteArray.toList_eq, ByteArray.toList_eq] at e))
              clear hA hsg hp hne hnv
              go_wp2_with (first
                | (go_at_call 38
                   refine (Tryz.strings_CutPrefix nm ⟨#[119, 97, 108, 47]⟩ _).mono ?_
                   rw [HP1.out, HP2.out]
                   rintro e w2 ⟨rfl, hw2⟩
                   have hw2' := hw2.symm
                   subst hw2')
                | (go_at_call 39
                   refine (atoi_ok dg v _ (by omega) HAT.out).mono ?_
                   rintro e w3 ⟨rfl, hm3⟩
                   have HM3 := Lib.hid hm3
                   clear hm3)
                | (go_at_call 9
                   refine (name_any v _ ((HLY.out.mod0 HMr.out).mod0 HM3.out)).mono ?_
                   rw [HNV.out]
                   rintro e w4 ⟨rfl, hm4⟩
                   have HM4 := Lib.hid (HM3.out.trans0 hm4)
                   clear hm4))
              go_roundw
              case rel =>
                refine ⟨j + 1, k, ys, cv, Av, by omega, by omega, by go_num, rfl, own_mod (S := Non) HOWN.out HM4.out (fun _ _ h => h), HMR.out.trans0 HM4.out, ?_⟩
                show _ = _
                rw [segs_snoc HX.out, HSG.out, HYS.out]
                simp
              case measure => simp [intOf]; omega
            · have HAT : Hid (∀ v, Lib.atoiAll dg.data.toList ≠ .ok v) := Lib.hid (fun v e => hA ⟨v, e⟩)
              clear hA hsg hp
              go_wp2_with (first
                | (go_at_call 38
                   refine (Tryz.strings_CutPrefix nm ⟨#[119, 97, 108, 47]⟩ _).mono ?_
                   rw [HP1.out, HP2.out]
                   rintro e w2 ⟨rfl, hw2⟩
                   have hw2' := hw2.symm
                   subst hw2')
                | (go_at_call 39
                   refine (atoi_no dg _ (HER.out.mod0 HMr.out) (by omega) HAT.out).mono ?_
                   rintro e w3 ⟨xv, NN, rfl, hm3⟩
                   have HM3 := Lib.hid hm3
                   clear hm3))
              go_roundw
              case rel =>
                refine ⟨j + 1, k, ys, cv, Av, by omega, by omega, by go_num, rfl, own_mod (S := Non) HOWN.out HM3.out (fun _ _ h => h), HMR.out.trans0 HM3.out, ?_⟩
                show _ = _
                rw [segs_snoc HX.out, HSG.out, HYS.out]
                simp
              case measure => simp [intOf]; omega
          · have HP1 := Lib.hid (Bool.not_eq_true _ ▸ hp : Lib.hasPrefix nm.data.toList (ByteArray.mk #[119, 97, 108, 47]).data.toList = false)
            by_cases hA : ∃ v, Lib.atoiAll dg.data.toList = .ok v
            · obtain ⟨v, hA⟩ := hA
              have HAT := Lib.hid hA
              clear hA hsg hp
              go_wp2_with (first
                | (go_at_call 38
                   refine (Tryz.strings_CutPrefix nm ⟨#[119, 97, 108, 47]⟩ _).mono ?_
                   rw [HP1.out, HP2.out]
                   rintro e w2 ⟨rfl, hw2⟩
                   have hw2' := hw2.symm
                   subst hw2')
                | (go_at_call 39
                   refine (atoi_ok dg v _ (by omega) HAT.out).mono ?_
                   rintro e w3 ⟨rfl, hm3⟩
                   have HM3 := Lib.hid hm3
                   clear hm3))
              go_roundw
              case rel =>
                refine ⟨j + 1, k, ys, cv, Av, by omega, by omega, by go_num, rfl, own_mod (S := Non) HOWN.out HM3.out (fun _ _ h => h), HMR.out.trans0 HM3.out, ?_⟩
                show _ = _
                rw [segs_snoc HX.out, HSG.out, HYS.out]
                simp
              case measure => simp [intOf]; omega
            · have HAT : Hid (∀ v, Lib.atoiAll dg.data.toList ≠ .ok v) := Lib.hid (fun v e => hA ⟨v, e⟩)
              clear hA hsg hp
              go_wp2_with (first
                | (go_at_call 38
                   refine (Tryz.strings_CutPrefix nm ⟨#[119, 97, 108, 47]⟩ _).mono ?_
                   rw [HP1.out, HP2.out]
                   rintro e w2 ⟨rfl, hw2⟩
                   have hw2' := hw2.symm
                   subst hw2')
                | (go_at_call 39
                   refine (atoi_no dg _ (HER.out.mod0 HMr.out) (by omega) HAT.out).mono ?_
                   rintro e w3 ⟨xv, NN, rfl, hm3⟩
                   have HM3 := Lib.hid hm3
                   clear hm3))
              go_roundw
              case rel =>
                refine ⟨j + 1, k, ys, cv, Av, by omega, by omega, by go_num, rfl, own_mod (S := Non) HOWN.out HM3.out (fun _ _ h => h), HMR.out.trans0 HM3.out, ?_⟩
                show _ = _
                rw [segs_snoc HX.out, HSG.out, HYS.out]
                simp
              case measure => simp [intOf]; omega
    · obtain rfl : j = nn := by omega
      go_wp2_with fail
      go_ret
      have hr := Rd.of_own hown
      rw [HYS.out, List.take_of_length_le (by rw [HNL.out]; omega)] at hr
      exact ⟨Av, k, cv, L, rfl, HL.out, hr, (own_slice hown).elim fun _ h => by obtain ⟨_, h, h1, h2⟩ := h; cases h; exact h1, (own_slice hown).elim fun _ h => by obtain ⟨_, h, h1, h2⟩ := h; cases h; have : maxLen = 9223372036854775807 := rfl; omega, HM1.out.trans0 HMR.out⟩

end Go.Proofs.YtgdamcimpgapgaaGreatDoor
