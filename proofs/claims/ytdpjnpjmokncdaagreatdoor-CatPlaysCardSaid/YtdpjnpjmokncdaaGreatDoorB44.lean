/- cat.sweep, cat.Table. -/
import Derived.Test.YtdpjnpjmokncdaaGreatDoorB42
import Derived.Test.YtdpjnpjmokncdaaGreatDoorB10
import Derived.Test.YtdpjnpjmokncdaaGreatDoorB43
import Derived.Test.YtdpjnpjmokncdaaGreatDoorB13
namespace Go.Proofs.YtdpjnpjmokncdaaGreatDoor
open Go.RowKit

theorem namesA_in {D : Dk} (nm : ByteArray) (h : nm ∈ namesD D) : ∃ f ∈ D.files, f.name = nm := by
  have := names_mem (namesD_are D) nm h
  obtain ⟨f, hf, he⟩ := List.mem_map.1 this
  exact ⟨f, hf, he⟩
theorem named_one {s : ByteArray} (h : named s = true) : 1 ≤ s.size := by
  unfold named at h
  simp only [Bool.and_eq_true, decide_eq_true_eq] at h
  exact h.1

theorem sweepL_drop {so : ByteArray → Bool} {L : List ByteArray} {q : Nat} {nm : ByteArray} (h : L[q]? = some nm) (D : Dk) :
    sweepL so (L.drop q) D = if so nm = true then (if removeE D nm = 0 then sweepL so (L.drop (q + 1)) (removeD D nm) else (removeD D nm, removeE D nm)) else sweepL so (L.drop (q + 1)) D := by
  obtain ⟨hq, he⟩ := List.getElem?_eq_some_iff.1 h
  rw [List.drop_eq_getElem_cons hq, he, sweepL]

/-- memory between two rounds of a sweep. -/
structure SwM (F : Nat → Prop) (w w1 : World) (d : Nat) (so : ByteArray → Bool) (L : List ByteArray) (R : Dk × Int) (q : Nat) (F' : Nat → Prop) (D' : Dk) (wr : World) : Prop where
  disk : DiskIs wr F' d D'
  ok : DkOk D'
  mod : Mod F w1 wr
  far : ∀ k, F' k → F k ∨ w1.heap.size ≤ k
  eq : sweepL so (L.drop q) D' = R

set_option maxRecDepth 100000 in
set_option maxHeartbeats 2000000 in
theorem sweep_any (F : Nat → Prop) (d : Nat) (D : Dk) (w : World) (h : DiskIs w F d D) (ok : DkOk D) (g : Nat) (lb : Array Value) (so : ByteArray → Bool)
    (eg : ∀ args w, (callFunc g args).run Tryz.prog w = .ok (.enter g args) w)
    (hso : ∀ W nm, Mod F w W → 1 ≤ nm.size → nm.size ≤ 100 → Calls Tryz.prog g (#[.string nm] ++ lb) W fun e w' => e = .returned (.bool (so nm)) ∧ Mod Non W w') :
    Calls Tryz.prog 38 #[.pointer (some ⟨d, 0, none⟩), .func (.func g) #[] lb] w (DkPost F d (sweepD so D).1 (.int .i64 (sweepD so D).2) w) := by
  obtain ⟨R, hR⟩ : ∃ R, sweepD so D = R := ⟨_, rfl⟩
  rw [hR]
  have hflt : ∀ k, F k → k < w.heap.size := by obtain ⟨G, m, kvs, _, _, _, _, _, h6⟩ := h; exact h6
  have HH := Lib.hid h
  have HO := Lib.hid ok
  have HSO := Lib.hid hso
  have HRR := Lib.hid hR
  have HFL := Lib.hid hflt
  have hfl := files_len ok
  clear h ok hso hR hflt
  go_enter Tryz.func38, Tryz.ntmps38
  go_wp2_with (go_at_call 16; refine (names_any F d D _ HH.out HO.out).mono ?_; rintro e w1 ⟨An, nn, cn, L, rfl, hL, hr1, hnn, hcn, hbn, hb1⟩)
  have hm1 : Mod Non w w1 := Mod.of_below hb1
  have hLe := namesD_of hL
  have hnl : L.length = nn := by have := hr1.1; simpa using this
  have hnn2 : nn ≤ 100000000000 := by
    have := namesD_len D HO.out.nd
    rw [← hLe, hnl] at this
    omega
  have HNM : Hid (∀ nm ∈ L, named nm = true) := fun nm hn => by
    rw [hLe] at hn
    obtain ⟨f, hf, rfl⟩ := namesA_in nm hn
    exact HO.out.nm f hf
  have HEQ : Hid (sweepL so L D = R) := by
    show _ = _
    rw [hLe]
    exact HRR.out
  have HNL := Lib.hid hnl
  have HM1 := Lib.hid hm1
  have HR1 := Lib.hid hr1
  have HBN := Lib.hid hbn
  have hs1 := hm1.size
  clear hnl hL hm1 hr1 hb1 hfl hLe HRR hbn
  go_loopw [11] (fun i wr => ∃ (j : Nat) (F' : Nat → Prop) (D' : Dk), j ≤ nn ∧ i = .int .i64 j ∧ Hid (SwM F w w1 d so L R j F' D' wr)) (fun i _ => nn - (intOf i).toNat)
  case atStart => exact ⟨0, F, D, Nat.zero_le _, rfl, ⟨HH.out.mod0 HM1.out, HO.out, Mod.refl _ _, fun k hk => .inl hk, HEQ.out⟩⟩
  case round =>
    obtain ⟨j, F', D', hj, rfl, HS⟩ := hrel
    have HD := Lib.hid HS.out.disk
    have HMR := Lib.hid HS.out.mod
    by_cases hlt : j < nn
    · have hoff : 0 < nn → Off F An := fun _ b hb hf => by
        have h1 := HBN.out b hb
        have h2 := HFL.out b hf
        omega
      obtain ⟨b, o, rfl, u, hu, hc⟩ := (HR1.out.mod HMR.out hoff).at_ hlt
      rw [List.getElem?_map] at hu
      cases hx : L[j]? with
      | none => rw [hx] at hu; cases hu
      | some nm =>
        rw [hx] at hu
        simp only [Option.map_some, Option.some.injEq] at hu
        subst hu
        have hnmd := HNM.out nm (List.mem_of_getElem? hx)
        have hs100 := named_size hnmd
        have hs1' := named_one hnmd
        have hstep := sweepL_drop (so := so) hx D'
        rw [HS.out.eq] at hstep
        have HST := Lib.hid hstep
        have hcall := HSO.out wr nm (HM1.out.non.trans HMR.out fun k hk => .inl hk) hs1' hs100
        have HCALL := Lib.hid hcall
        have hno : ∀ k, F' k → F k ∨ w1.heap.size ≤ k := HS.out.far
        have HNO := Lib.hid hno
        have HOK := Lib.hid HS.out.ok
        clear hx hnmd hstep hcall hno
        obtain ⟨s, hs⟩ : ∃ s, so nm = s := ⟨_, rfl⟩
        rw [hs] at HCALL HST
        clear hs
        cases s with
        | false =>
          go_wp2_with (go_at_fn g; refine HCALL.out.mono ?_; rintro e w2 ⟨rfl, hm2⟩; have HM2 := Lib.hid hm2; clear hm2)
          go_roundw
          case rel =>
            refine ⟨j + 1, F', D', by omega, by go_num, ⟨HD.out.mod0 HM2.out, HOK.out, HMR.out.trans0 HM2.out, HNO.out, ?_⟩⟩
            have := HST.out
            simp only [Bool.false_eq_true, if_false] at this
            exact this.symm
          case measure => simp [intOf]; omega
        | true =>
          obtain ⟨E, hE⟩ : ∃ E, removeE D' nm = E := ⟨_, rfl⟩
          obtain ⟨D2, hD2⟩ : ∃ D2, removeD D' nm = D2 := ⟨_, rfl⟩
          have HE := Lib.hid hE
          have HD2 := Lib.hid hD2
          have HOK2 : Hid (DkOk D2) := by { show DkOk D2; rw [← hD2]; exact removeD_ok HOK.out nm }
          rw [hE, hD2] at HST
          clear hE hD2
          by_cases hE0 : E = 0
          · subst hE0
            go_wp2_with (first
              | (go_at_fn g; refine HCALL.out.mono ?_; rintro e w2 ⟨rfl, hm2⟩; have HM2 := Lib.hid hm2; clear hm2)
              | (go_at_call 80
                 refine (remove_any F' d D' nm _ (HD.out.mod0 HM2.out) HOK.out (by omega)).mono ?_
                 rw [HE.out, HD2.out]
                 rintro e w3 ⟨rfl, F3, hd3, hm3, hF3⟩
                 have HD3 := Lib.hid hd3
                 have HM3 := Lib.hid hm3
                 have HF3 := Lib.hid hF3
                 clear hd3 hm3 hF3)
              | fail)
            go_roundw
            case rel =>
              refine ⟨j + 1, F3, D2, by omega, by go_num, ⟨HD3.out, HOK2.out, (HMR.out.trans0 HM2.out).trans HM3.out fun k hk => (HNO.out k hk).imp id fun h => h, fun k hk => ?_, ?_⟩⟩
              · rcases HF3.out k hk with h | h
                · exact HNO.out k h
                · have h1 := HMR.out.size
                  have h2 := HM2.out.size
                  exact .inr (by omega)
              · have := HST.out
                simp only [if_true] at this
                exact this.symm
            case measure => simp [intOf]; omega
          · have hE1 : (E == 0) = false := by simp [hE0]
            have hE2 : (E != 0) = true := by simp [hE0]
            have HRE : Hid (R = (D2, E)) := by
              have := HST.out
              simp only [if_true] at this
              rwa [if_neg hE0] at this
            go_wp2_with (first
              | (go_at_fn g; refine HCALL.out.mono ?_; rintro e w2 ⟨rfl, hm2⟩; have HM2 := Lib.hid hm2; clear hm2)
              | (go_at_call 80
                 refine (remove_any F' d D' nm _ (HD.out.mod0 HM2.out) HOK.out (by omega)).mono ?_
                 rw [HE.out, HD2.out]
                 rintro e w3 ⟨rfl, F3, hd3, hm3, hF3⟩
                 have HD3 := Lib.hid hd3
                 have HM3 := Lib.hid hm3
                 have HF3 := Lib.hid hF3
                 clear hd3 hm3 hF3)
              | fail)
            go_ret
            rw [HRE.out]
            refine ⟨rfl, F3, HD3.out, ((HM1.out.non.trans HMR.out fun k hk => .inl hk).trans0 HM2.out).trans HM3.out fun k hk => (HNO.out k hk).imp id fun h => by omega, fun k hk => ?_⟩
            rcases HF3.out k hk with h | h
            · exact (HNO.out k h).imp id fun h => by omega
            · have h1 := HMR.out.size
              have h2 := HM2.out.size
              exact .inr (by omega)
    · obtain rfl : j = nn := by omega
      go_wp2_with fail
      go_ret
      have he := HS.out.eq
      rw [List.drop_of_length_le (by rw [HNL.out]; omega), sweepL] at he
      rw [← he]
      exact ⟨rfl, F', HD.out, HM1.out.non.trans HMR.out fun k hk => .inl hk, fun k hk => (HS.out.far k hk).imp id fun h => by omega⟩

set_option maxRecDepth 100000 in
set_option maxHeartbeats 400000 in
theorem table_any (n : Int) (w : World) (hL : Lay w) : Calls Tryz.prog 25 #[.int .i64 n] w fun e w' => e = .returned (.string (foldN tabP n)) ∧ Mod Non w w' := by
  have HN := Lib.hid (fold_any tabP n w hL (by decide))
  unfold tabP at HN ⊢
  clear hL
  go_enter Tryz.func25, Tryz.ntmps25
  go_wp2_with (go_at_call 36; refine HN.out.mono ?_; rintro e w1 ⟨rfl, hm⟩)
  go_ret
  exact ⟨rfl, hm⟩

end Go.Proofs.YtdpjnpjmokncdaaGreatDoor

/- package cat: the closures of Save and Clean. -/
namespace Go.Proofs.YtdpjnpjmokncdaaGreatDoor
open Go.RowKit

theorem beq_str (a b : ByteArray) : (a.toList == b.toList) = decide (a = b) := by
  by_cases h : a = b
  · subst h; simp
  · rw [decide_eq_false h, beq_eq_false_iff_ne]
    intro e
    rw [ByteArray.toList_eq, ByteArray.toList_eq] at e
    exact h (ByteArray.ext (Array.ext' e))
theorem bne_str (a b : ByteArray) : (a.toList != b.toList) = decide (a ≠ b) := by
  have h := beq_str a b
  by_cases e : a = b <;> simp [bne, h, e]

theorem shad_list : shadN.toList = [99, 117, 114, 126] := by rw [ByteArray.toList_eq]; rfl

set_option maxRecDepth 100000 in
set_option maxHeartbeats 400000 in
theorem so1_any (own nm : ByteArray) (bx : Nat) (w : World) (hb : w.cell? ⟨bx, 0, none⟩ = some (.string own)) :
    Calls Tryz.prog 39 #[.string nm, .pointer (some ⟨bx, 0, none⟩)] w fun e w' => e = .returned (.bool (soOwn own nm)) ∧ Mod Non w w' := by
  obtain ⟨s, hs⟩ : ∃ s, soOwn own nm = s := ⟨_, rfl⟩
  rw [hs]
  unfold soOwn at hs
  rw [← beq_str, ← beq_str, shad_list] at hs
  obtain ⟨q1, hq1⟩ : ∃ q, (nm.toList == [99, 117, 114, 126]) = q := ⟨_, rfl⟩
  obtain ⟨q2, hq2⟩ : ∃ q, (nm.toList == own.toList) = q := ⟨_, rfl⟩
  rw [hq1, hq2] at hs
  have HS := Lib.hid hs
  clear hs
  cases q1
  all_goals
    cases q2
    all_goals
      go_enter Tryz.func39, Tryz.ntmps39
      go_wp2_with fail
      go_ret
      exact ⟨by rw [← HS.out]; rfl, Mod.refl _ _⟩

set_option maxRecDepth 100000 in
set_option maxHeartbeats 400000 in
theorem so2_any (own nm : ByteArray) (bx : Nat) (w : World) (hb : w.cell? ⟨bx, 0, none⟩ = some (.string own)) (hL : Lay w) (hE : Errs w) (h1 : 1 ≤ nm.size) (h2 : nm.size ≤ 200) :
    Calls Tryz.prog 42 #[.string nm, .pointer (some ⟨bx, 0, none⟩)] w fun e w' => e = .returned (.bool (soOld own nm)) ∧ Mod Non w w' := by
  have HN := Lib.hid (catNum_any manP nm w hL hE (by decide) h1 h2)
  unfold manP at HN
  obtain ⟨s, hs⟩ : ∃ s, soOld own nm = s := ⟨_, rfl⟩
  rw [hs]
  unfold soOld at hs
  rw [← bne_str] at hs
  obtain ⟨q2, hq2⟩ : ∃ q, (nm.toList != own.toList) = q := ⟨_, rfl⟩
  rw [hq2] at hs
  have HS := Lib.hid hs
  have HB := Lib.hid hb
  clear hs hL hE hb
  cases hq : numF manP nm with
  | none =>
    have HQ : Hid (s = false) := by { show s = false; rw [← HS.out, hq]; rfl }
    have HP : Hid (∀ e w', NuPost ⟨#[109, 97, 110, 47]⟩ nm w e w' → ∃ x, e = .returned (.tuple #[.int .i64 x, .bool false]) ∧ Mod Non w w') := by
      rintro e w' ⟨x, b, rfl, hm, hv⟩
      have hq' : numF ⟨#[109, 97, 110, 47]⟩ nm = none := hq
      rw [hq'] at hv
      simp only at hv
      subst hv
      exact ⟨x, rfl, hm⟩
    clear hq
    go_enter Tryz.func42, Tryz.ntmps42
    go_wp2_with (go_at_call 43; refine HN.out.mono ?_; rintro e w1 hp; obtain ⟨x, rfl, hm⟩ := HP.out e w1 hp; have HM := Lib.hid hm; clear hp hm)
    go_ret
    exact ⟨by rw [HQ.out]; rfl, HM.out⟩
  | some v =>
    have HQ : Hid (s = q2) := by { show s = q2; rw [← HS.out, hq]; rfl }
    have HP : Hid (∀ e w', NuPost ⟨#[109, 97, 110, 47]⟩ nm w e w' → e = .returned (.tuple #[.int .i64 v, .bool true]) ∧ Mod Non w w') := by
      rintro e w' ⟨x, b, rfl, hm, hv⟩
      have hq' : numF ⟨#[109, 97, 110, 47]⟩ nm = some v := hq
      rw [hq'] at hv
      simp only at hv
      obtain ⟨rfl, rfl⟩ := hv
      exact ⟨rfl, hm⟩
    clear hq
    go_enter Tryz.func42, Tryz.ntmps42
    go_wp2_with (go_at_call 43; refine HN.out.mono ?_; rintro e w1 hp; obtain ⟨rfl, hm⟩ := HP.out e w1 hp; have HM := Lib.hid hm; have cb1 : w1.cell? ⟨bx, 0, none⟩ = some (.string own) := hm.cell HB.out (fun h => h); clear hp hm)
    go_ret
    exact ⟨by rw [HQ.out, ← hq2]; rfl, HM.out⟩

set_option maxRecDepth 100000 in
set_option maxHeartbeats 400000 in
theorem soM_any (x : Mw) (k : Int) (bx : Nat) (w : World) (hb : w.cell? ⟨bx, 0, none⟩ = some (.int .i64 k)) :
    Calls Tryz.prog 58 #[x.val, .pointer (some ⟨bx, 0, none⟩)] w fun e w' => e = .returned (.bool (decide (x.m.num = k))) ∧ Mod Non w w' := by
  obtain ⟨⟨num, level, count, first, last⟩, YA, ca, YB, cb⟩ := x
  unfold Mw.val
  simp only
  have hbl := World.block_lt_of_cell? w _ hb
  simp only at hbl
  have hm : Mod Non w (w.alloc (.cells #[.int .i64 num, .int .i64 level, .int .i64 count, .slice YA first.length ca, .slice YB last.length cb] 95)) := (Mod.refl Non w).alloc _
  have c1 : (w.alloc (.cells #[.int .i64 num, .int .i64 level, .int .i64 count, .slice YA first.length ca, .slice YB last.length cb] 95)).cell? ⟨bx, 0, none⟩ = some (.int .i64 k) := hm.cell hb fun h => h
  have HM := Lib.hid hm
  have hq : ((num : Int) == k) = decide (num = k) := by
    by_cases h : num = k <;> simp [h]
  have HQ := Lib.hid hq
  clear hm hq
  go_enter Tryz.func58, Tryz.ntmps58
  go_wp2_with fail
  go_ret
  exact ⟨by rw [← HQ.out]; first | rfl | simp, HM.out⟩

set_option maxRecDepth 100000 in
set_option maxHeartbeats 1000000 in
theorem idxM_any (A : Option Addr) (n c : Nat) (ms : List Mw) (k : Int) (bx : Nat) (w : World) (hr : Rd w A (n * 5) (ms.flatMap Mw.cells)) (hl : ms.length = n) (hn : n ≤ 9223372036854775807) (hb : w.cell? ⟨bx, 0, none⟩ = some (.int .i64 k)) :
    Calls Tryz.prog 94 #[.slice A n c, .func (.func 58) #[] #[.pointer (some ⟨bx, 0, none⟩)]] w fun e w' =>
      ∃ i : Int, e = .returned (.int .i64 i) ∧ decide (0 ≤ i) = (ms.any fun x => decide (x.m.num = k)) ∧ -1 ≤ i ∧ i ≤ 9223372036854775807 ∧ Mod Non w w' := by
  have HR := Lib.hid hr
  have HL := Lib.hid hl
  have HB := Lib.hid hb
  clear hr hl hb
  go_enter Tryz.func94, Tryz.ntmps94
  go_wp2_with fail
  go_loopw [8] (fun i wr => ∃ (j : Nat), j ≤ n ∧ i = .int .i64 j ∧ Hid (Mod Non w wr) ∧ Hid (∀ x ∈ ms.take j, decide (x.m.num = k) = false)) (fun i _ => n - (intOf i).toNat)
  case atStart => exact ⟨0, Nat.zero_le _, rfl, Mod.refl _ _, fun x hx => by simp at hx⟩
  case round =>
    obtain ⟨j, hj, rfl, HM, HA⟩ := hrel
    by_cases hlt : j < n
    · obtain ⟨b, o, y, rfl, hy, g0, g1, g2, g3, g4⟩ := (HR.out.mod0 HM.out).mw HL.out hlt
      have i1 : (0 : Int) ≤ (j : Int) := by omega
      have i2 : (j : Int) < (n : Int) := by omega
      have hcb := HM.out.cell HB.out fun h => h
      have HC := Lib.hid (soM_any y k bx wr hcb)
      have HY := Lib.hid hy
      obtain ⟨q, hq⟩ : ∃ q, decide (y.m.num = k) = q := ⟨_, rfl⟩
      rw [hq] at HC
      have HQ := Lib.hid hq
      clear hy hcb hq
      obtain ⟨⟨num, level, count, first, last⟩, YA, ca, YB, cb⟩ := y
      simp only at g0 g1 g2 g3 g4 HQ
      unfold Mw.val at HC
      simp only at HC
      obtain ⟨n1, hn1⟩ : ∃ n1, first.length = n1 := ⟨_, rfl⟩
      obtain ⟨n2, hn2⟩ : ∃ n2, last.length = n2 := ⟨_, rfl⟩
      rw [hn1] at g3 HC
      rw [hn2] at g4 HC
      clear hn1 hn2
      cases q with
      | true =>
        go_wp2_with (first
          | (go_at_call 58; refine HC.out.mono ?_; rintro e w2 ⟨rfl, hm2⟩; have HM2 := Lib.hid hm2; clear hm2)
          | fail)
        go_ret
        refine ⟨(j : Int), rfl, ?_, by omega, by omega, HM.out.trans0 HM2.out⟩
        rw [decide_eq_true i1]
        symm
        rw [List.any_eq_true]
        exact ⟨_, List.mem_of_getElem? HY.out, HQ.out⟩
      | false =>
        go_wp2_with (first
          | (go_at_call 58; refine HC.out.mono ?_; rintro e w2 ⟨rfl, hm2⟩; have HM2 := Lib.hid hm2; clear hm2)
          | fail)
        go_roundw
        case rel =>
          refine ⟨j + 1, by omega, by go_num, HM.out.trans0 HM2.out, ?_⟩
          show ∀ x ∈ ms.take (j + 1), _
          intro x hx
          rw [List.take_add_one, HY.out] at hx
          rcases List.mem_append.1 hx with hx | hx
          · exact HA.out x hx
          · simp only [Option.toList_some, List.mem_singleton] at hx
            rw [hx]; exact HQ.out
        case measure => simp [intOf]; omega
    · obtain rfl : j = n := by omega
      go_wp2_with fail
      go_ret
      refine ⟨-1, rfl, ?_, by omega, by omega, HM.out⟩
      symm
      rw [show decide ((0 : Int) ≤ -1) = false from rfl]
      rw [List.any_eq_false]
      intro x hx
      have := HA.out x (by rw [List.take_of_length_le (by rw [HL.out]; omega)]; exact hx)
      rw [this]; simp

set_option maxRecDepth 100000 in
set_option maxHeartbeats 400000 in
theorem contM_any (A : Option Addr) (n c : Nat) (ms : List Mw) (k : Int) (bx : Nat) (w : World) (hr : Rd w A (n * 5) (ms.flatMap Mw.cells)) (hl : ms.length = n) (hn : n ≤ 9223372036854775807) (hb : w.cell? ⟨bx, 0, none⟩ = some (.int .i64 k)) :
    Calls Tryz.prog 57 #[.slice A n c, .func (.func 58) #[] #[.pointer (some ⟨bx, 0, none⟩)]] w fun e w' =>
      e = .returned (.bool (ms.any fun x => decide (x.m.num = k))) ∧ Mod Non w w' := by
  have HI := Lib.hid (idxM_any A n c ms k bx w hr hl hn hb)
  obtain ⟨q, hq⟩ : ∃ q, (ms.any fun x => decide (x.m.num = k)) = q := ⟨_, rfl⟩
  rw [hq] at HI ⊢
  clear hq hr hl hn hb
  go_enter Tryz.func57, Tryz.ntmps57
  go_wp2_with (go_at_call 94; refine HI.out.mono ?_; rintro e w1 ⟨i, rfl, hi, hi1, hi2, hm⟩; have HI2 := Lib.hid hi; have HM := Lib.hid hm; clear hi hm)
  go_ret
  rw [← HI2.out]
  exact ⟨rfl, HM.out⟩

end Go.Proofs.YtdpjnpjmokncdaaGreatDoor

/- package cat: the closure of Clean. -/
namespace Go.Proofs.YtdpjnpjmokncdaaGreatDoor
open Go.RowKit

/-- number's answer where it is one, and where it is none. -/
theorem nu_some {p nm : ByteArray} {w : World} {v : Int} (h : numF p nm = some v) {e : Ending} {w' : World} (hp : NuPost p nm w e w') : e = .returned (.tuple #[.int .i64 v, .bool true]) ∧ Mod Non w w' := by
  obtain ⟨x, b, rfl, hm, hv⟩ := hp
  rw [h] at hv
  simp only at hv
  obtain ⟨rfl, rfl⟩ := hv
  exact ⟨rfl, hm⟩
theorem nu_none {p nm : ByteArray} {w : World} (h : numF p nm = none) {e : Ending} {w' : World} (hp : NuPost p nm w e w') : ∃ x, e = .returned (.tuple #[.int .i64 x, .bool false]) ∧ Mod Non w w' := by
  obtain ⟨x, b, rfl, hm, hv⟩ := hp
  rw [h] at hv
  simp only at hv
  subst hv
  exact ⟨x, rfl, hm⟩

set_option maxRecDepth 100000 in
set_option maxHeartbeats 2000000 in
theorem so3_any (x : Vw) (nm : ByteArray) (bv : Nat) (w : World) (hb : Blk w bv 34 #[.int .i64 x.gen, .int .i64 x.next, .int .i64 x.log, .int .i64 x.seq, .slice x.A x.ms.length x.c]) (h : VwOk w x) (hL : Lay w) (hE : Errs w) (h1 : 1 ≤ nm.size) (h2 : nm.size ≤ 200) :
    Calls Tryz.prog 56 #[.string nm, .pointer (some ⟨bv, 0, none⟩)] w fun e w' => e = .returned (.bool (cleanSo x.v nm)) ∧ Mod Non w w' := by
  obtain ⟨gen, next, log, seq, A, c, ms⟩ := x
  obtain ⟨n, hn⟩ : ∃ n, ms.length = n := ⟨_, rfl⟩
  simp only at hb
  obtain ⟨hrow, hnc, hcm, -⟩ := h
  simp only at hrow hnc hcm
  rw [hn] at hb hrow hnc
  obtain ⟨r, hr⟩ : ∃ r, cleanSo (Vw.v ⟨gen, next, log, seq, A, c, ms⟩) nm = r := ⟨_, rfl⟩
  rw [hr]
  unfold cleanSo at hr
  have hgen : (Vw.v ⟨gen, next, log, seq, A, c, ms⟩).gen = gen := rfl
  have hlog : (Vw.v ⟨gen, next, log, seq, A, c, ms⟩).log = log := rfl
  have htab : (Vw.v ⟨gen, next, log, seq, A, c, ms⟩).tables = ms.map (·.m) := rfl
  rw [hgen, hlog, htab] at hr
  clear hgen hlog htab
  have HB := Lib.hid hb
  have HROW := Lib.hid hrow
  have HL := Lib.hid hL
  have HE := Lib.hid hE
  have HNN := Lib.hid hn
  have hcall : ∀ (p : ByteArray) W, Mod Non w W → p.size ≤ 100 → Calls Tryz.prog 43 #[.string p, .string nm] W (NuPost p nm W) := fun p W hW hp => catNum_any p nm W (HL.out.mod0 hW) (HE.out.mod0 hW) hp h1 h2
  have HCALL := Lib.hid hcall
  clear hb hrow hL hE hcall hn
  cases hq1 : numF manP nm with
  | some g =>
    rw [hq1] at hr
    simp only at hr
    have hne : ((g : Int) != gen) = decide (g ≠ gen) := by by_cases h : g = gen <;> simp [h]
    rw [← hne] at hr
    have HR := Lib.hid hr
    have HP : Hid (∀ e w', NuPost ⟨#[109, 97, 110, 47]⟩ nm w e w' → e = .returned (.tuple #[.int .i64 g, .bool true]) ∧ Mod Non w w') := fun e w' => nu_some hq1
    clear hq1 hr hne
    go_enter Tryz.func56, Tryz.ntmps56
    go_wp2_with (go_at_call 43; refine (HCALL.out ⟨#[109, 97, 110, 47]⟩ w (Mod.refl _ _) (by decide)).mono ?_; rintro e w1 hp; obtain ⟨rfl, hm⟩ := HP.out e w1 hp; have HM := Lib.hid hm; have cb1 : w1.cell? ⟨bv, 0, none⟩ = some (.int .i64 gen) := (HB.out.mod hm fun h => h).cell 0; clear hp hm)
    go_ret
    exact ⟨by rw [← HR.out]; rfl, HM.out⟩
  | none =>
    rw [hq1] at hr
    simp only at hr
    have HP : Hid (∀ e w', NuPost ⟨#[109, 97, 110, 47]⟩ nm w e w' → ∃ x, e = .returned (.tuple #[.int .i64 x, .bool false]) ∧ Mod Non w w') := fun e w' => nu_none hq1
    clear hq1
    cases hq2 : numF tabP nm with
    | some t =>
      rw [hq2] at hr
      simp only at hr
      rw [List.any_map] at hr
      have HR := Lib.hid hr
      have HP2 : Hid (∀ W e w', NuPost ⟨#[116, 97, 98, 47]⟩ nm W e w' → e = .returned (.tuple #[.int .i64 t, .bool true]) ∧ Mod Non W w') := fun W e w' => nu_some hq2
      clear hq2 hr
      go_enter Tryz.func56, Tryz.ntmps56
      go_wp2_with fail
      refine (HCALL.out ⟨#[109, 97, 110, 47]⟩ w (Mod.refl _ _) (by decide)).mono ?_
      rintro e w1 hp
      obtain ⟨x1, rfl, hm1⟩ := HP.out e w1 hp
      have HM1 := Lib.hid hm1
      clear hp hm1
      go_wp2_with fail
      refine (HCALL.out ⟨#[116, 97, 98, 47]⟩ w1 HM1.out (by decide)).mono ?_
      rintro e w2 hp
      obtain ⟨rfl, hm2⟩ := HP2.out w1 e w2 hp
      have HM2 := Lib.hid (HM1.out.trans0 hm2)
      have HM3 := Lib.hid ((HM1.out.trans0 hm2).alloc (.cells #[.int .i64 t] 3))
      have cb4 : (w2.alloc (.cells #[.int .i64 t] 3)).cell? ⟨bv, 4, none⟩ = some (.slice A n c) := (HB.out.mod HM3.out fun h => h).cell 4
      have HC := Lib.hid (contM_any A n c ms t w2.heap.size (w2.alloc (.cells #[.int .i64 t] 3)) (HROW.out.mod0 HM3.out) HNN.out (by omega) ((Blk.new w2 3 #[.int .i64 t]).cell 0))
      clear hp hm2
      obtain ⟨q, hq⟩ : ∃ q, (ms.any fun x => decide (x.m.num = t)) = q := ⟨_, rfl⟩
      rw [hq] at HC
      have HQ : Hid ((!q) = r) := by { show (!q) = r; rw [← HR.out, ← hq]; rfl }
      clear hq
      go_wp2_with fail
      refine HC.out.mono ?_
      rintro e w4 ⟨rfl, hm4⟩
      have HM4 := Lib.hid (HM3.out.trans0 hm4)
      clear hm4
      go_wp2_with fail
      go_ret
      exact ⟨by rw [← HQ.out]; rfl, HM4.out⟩
    | none =>
      rw [hq2] at hr
      simp only at hr
      have HP2 : Hid (∀ W e w', NuPost ⟨#[116, 97, 98, 47]⟩ nm W e w' → ∃ x, e = .returned (.tuple #[.int .i64 x, .bool false]) ∧ Mod Non W w') := fun W e w' => nu_none hq2
      clear hq2
      obtain ⟨qs, hqs⟩ : ∃ q, (nm.toList == [99, 117, 114, 126]) = q := ⟨_, rfl⟩
      have hsh : decide (nm = shadN) = qs := by rw [← beq_str, shad_list, hqs]
      rw [hsh] at hr
      clear hsh
      cases hq3 : numF logP nm with
      | some l =>
        rw [hq3] at hr
        simp only at hr
        obtain ⟨ql, hql⟩ : ∃ q, decide (l < log) = q := ⟨_, rfl⟩
        rw [hql] at hr
        have HR := Lib.hid hr
        have HP3 : Hid (∀ W e w', NuPost ⟨#[119, 97, 108, 47]⟩ nm W e w' → e = .returned (.tuple #[.int .i64 l, .bool true]) ∧ Mod Non W w') := fun W e w' => nu_some hq3
        clear hq3 hr
        cases qs
        all_goals
          go_enter Tryz.func56, Tryz.ntmps56
          go_wp2_with fail
          refine (HCALL.out ⟨#[109, 97, 110, 47]⟩ w (Mod.refl _ _) (by decide)).mono ?_
          rintro e w1 hp
          obtain ⟨x1, rfl, hm1⟩ := HP.out e w1 hp
          have HM1 := Lib.hid hm1
          clear hp hm1
          go_wp2_with fail
          refine (HCALL.out ⟨#[116, 97, 98, 47]⟩ w1 HM1.out (by decide)).mono ?_
          rintro e w2 hp
          obtain ⟨x2, rfl, hm2⟩ := HP2.out w1 e w2 hp
          have HM2 := Lib.hid (HM1.out.trans0 hm2)
          have HM3 := Lib.hid ((HM1.out.trans0 hm2).alloc (.cells #[.int .i64 x2] 3))
          clear hp hm2
          go_wp2_with fail
          refine (HCALL.out ⟨#[119, 97, 108, 47]⟩ _ HM3.out (by decide)).mono ?_
          rintro e w4 hp
          obtain ⟨rfl, hm4⟩ := HP3.out _ e w4 hp
          have HM4 := Lib.hid (HM3.out.trans0 hm4)
          have cb2 : w4.cell? ⟨bv, 2, none⟩ = some (.int .i64 log) := (HB.out.mod HM4.out fun h => h).cell 2
          clear hp hm4
          go_wp2_with fail
          go_ret
          exact ⟨by rw [← HR.out]; rfl, HM4.out⟩
      | none =>
        rw [hq3] at hr
        simp only [Bool.or_false] at hr
        subst hr
        have HP3 : Hid (∀ W e w', NuPost ⟨#[119, 97, 108, 47]⟩ nm W e w' → ∃ x, e = .returned (.tuple #[.int .i64 x, .bool false]) ∧ Mod Non W w') := fun W e w' => nu_none hq3
        clear hq3
        cases qs
        all_goals
          go_enter Tryz.func56, Tryz.ntmps56
          go_wp2_with fail
          refine (HCALL.out ⟨#[109, 97, 110, 47]⟩ w (Mod.refl _ _) (by decide)).mono ?_
          rintro e w1 hp
          obtain ⟨x1, rfl, hm1⟩ := HP.out e w1 hp
          have HM1 := Lib.hid hm1
          clear hp hm1
          go_wp2_with fail
          refine (HCALL.out ⟨#[116, 97, 98, 47]⟩ w1 HM1.out (by decide)).mono ?_
          rintro e w2 hp
          obtain ⟨x2, rfl, hm2⟩ := HP2.out w1 e w2 hp
          have HM2 := Lib.hid (HM1.out.trans0 hm2)
          have HM3 := Lib.hid ((HM1.out.trans0 hm2).alloc (.cells #[.int .i64 x2] 3))
          clear hp hm2
          go_wp2_with fail
          refine (HCALL.out ⟨#[119, 97, 108, 47]⟩ _ HM3.out (by decide)).mono ?_
          rintro e w4 hp
          obtain ⟨x3, rfl, hm4⟩ := HP3.out _ e w4 hp
          have HM4 := Lib.hid (HM3.out.trans0 hm4)
          clear hp hm4
          go_wp2_with fail
          go_ret
          exact ⟨rfl, HM4.out⟩

end Go.Proofs.YtdpjnpjmokncdaaGreatDoor

/- cat.Clean. -/
namespace Go.Proofs.YtdpjnpjmokncdaaGreatDoor
open Go.RowKit

set_option maxRecDepth 100000 in
set_option maxHeartbeats 4000000 in
theorem clean_any (F : Nat → Prop) (d : Nat) (D : Dk) (x : Vw) (w : World) (h : DiskIs w F d D) (ok : DkOk D) (hx : ∀ w', Mod F w w' → VwOk w' x) (hE : ∀ w', Mod F w w' → Errs w') :
    Calls Tryz.prog 20 #[.pointer (some ⟨d, 0, none⟩), x.val] w (DkPost F d (cleanD D x.v).1 (.int .i64 (cleanD D x.v).2) w) := by
  have hflt : ∀ k, F k → k < w.heap.size := by obtain ⟨_, _, _, _, _, _, _, _, h6⟩ := h; exact h6
  have hpow : ¬ F powG := by obtain ⟨_, _, _, _, _, _, _, h6, _⟩ := h; exact h6
  obtain ⟨X, hX⟩ : ∃ X, x = X := ⟨_, rfl⟩
  rw [hX] at hx
  have HX := Lib.hid hx
  obtain ⟨gen, next, log, seq, A, c, ms⟩ := x
  obtain ⟨n, hn⟩ : ∃ n, ms.length = n := ⟨_, rfl⟩
  obtain ⟨V, hV⟩ : ∃ V, Vw.v ⟨gen, next, log, seq, A, c, ms⟩ = V := ⟨_, rfl⟩
  have hXV : X.v = V := by rw [← hX]; exact hV
  have hXB : (#[.int .i64 gen, .int .i64 next, .int .i64 log, .int .i64 seq, .slice A n c] : Array Value) = #[.int .i64 X.gen, .int .i64 X.next, .int .i64 X.log, .int .i64 X.seq, .slice X.A X.ms.length X.c] := by rw [← hX]; simp only; rw [hn]
  have hck : ∀ W, Mod Non w W → Calls Tryz.prog 22 #[.agg #[.int .i64 gen, .int .i64 next, .int .i64 log, .int .i64 seq, .slice A n c]] W fun e w' => e = .returned (.int .i64 (if checkV V = true then 0 else 1)) ∧ Mod Non W w' := fun W hW => by
    have := check_any ⟨gen, next, log, seq, A, c, ms⟩ W (by rw [hX]; exact hx W hW.non)
    unfold Vw.val at this
    simp only at this
    rw [hn, hV] at this
    exact this
  have HXV := Lib.hid hXV
  have HXB := Lib.hid hXB
  have HCK := Lib.hid hck
  have HD := Lib.hid h
  have HO := Lib.hid ok
  have HE := Lib.hid hE
  have HFLT := Lib.hid hflt
  have HPOW := Lib.hid hpow
  obtain ⟨R, hR⟩ : ∃ R, cleanD D V = R := ⟨_, rfl⟩
  have HR := Lib.hid hR
  rw [hV, hR]
  unfold Vw.val
  simp only
  rw [hn]
  have HMA := Lib.hid ((Mod.refl Non w).alloc (.cells #[.int .i64 gen, .int .i64 next, .int .i64 log, .int .i64 seq, .slice A n c] 34))
  have hbx : ∀ W, Mod Non (w.alloc (.cells #[.int .i64 gen, .int .i64 next, .int .i64 log, .int .i64 seq, .slice A n c] 34)) W → Blk W w.heap.size 34 #[.int .i64 gen, .int .i64 next, .int .i64 log, .int .i64 seq, .slice A n c] := fun W hW => (Blk.new w _ _).mod hW fun h => h
  have HBW := Lib.hid hbx
  clear hck hV hn hx h ok hE hbx hR hflt hX hXV hXB hpow
  have HN := Lib.hid (noneC_any F d D _ (HD.out.mod0 HMA.out) HO.out)
  by_cases hcv : checkV V = true
  · rw [if_pos hcv] at HCK
    have HR1 : Hid (R = sweepD (cleanSo V) D) := by
      show R = _
      rw [← HR.out]
      unfold cleanD
      rw [if_pos hcv]
    clear hcv HR
    go_enter Tryz.func20, Tryz.ntmps20
    go_wp2_with fail
    refine HN.out.mono ?_
    rintro e w1 ⟨rfl, hm1⟩
    have HM1 := Lib.hid hm1
    have hb := HBW.out _ HM1.out
    have y0 : w1.cell? ⟨w.heap.size, 0, none⟩ = some (.int .i64 gen) := hb.cell 0
    have y1 : w1.cell? ⟨w.heap.size, 1, none⟩ = some (.int .i64 next) := hb.cell 1
    have y2 : w1.cell? ⟨w.heap.size, 2, none⟩ = some (.int .i64 log) := hb.cell 2
    have y3 : w1.cell? ⟨w.heap.size, 3, none⟩ = some (.int .i64 seq) := hb.cell 3
    have y4 : w1.cell? ⟨w.heap.size, 4, none⟩ = some (.slice A n c) := hb.cell 4
    clear hm1 hb
    go_wp2_with fail
    refine (HCK.out w1 (HMA.out.trans0 HM1.out)).mono ?_
    rintro e w2 ⟨rfl, hm2⟩
    have HM2 := Lib.hid (HM1.out.trans0 hm2)
    have HMW := Lib.hid (HMA.out.trans0 (HM1.out.trans0 hm2))
    clear hm2 y0 y1 y2 y3 y4
    have hnF : ¬ F w.heap.size := fun h => by have := HFLT.out _ h; omega
    have hso : ∀ W nm, Mod F w2 W → 1 ≤ nm.size → nm.size ≤ 100 → Calls Tryz.prog 56 (#[.string nm] ++ #[.pointer (some ⟨w.heap.size, 0, none⟩)]) W fun e w' => e = .returned (.bool (cleanSo V nm)) ∧ Mod Non W w' := fun W nm hW hn1 hn2 => by
      have hmw : Mod F w W := HMW.out.non.trans hW fun k hk => .inl hk
      have hb := (HBW.out _ HM2.out).mod hW hnF
      rw [HXB.out] at hb
      have := so3_any X nm w.heap.size W hb (HX.out W hmw) (HD.out.lay.mod hmw HPOW.out) (HE.out W hmw) hn1 (by omega)
      rw [HXV.out] at this
      exact this
    have HSO := Lib.hid hso
    clear hso
    go_wp2_with fail
    refine (sweep_any F d D _ (HD.out.mod0 HMW.out) HO.out 56 #[.pointer (some ⟨w.heap.size, 0, none⟩)] (cleanSo V) (enters_of Tryz.func56 (by kernel_rfl) rfl) HSO.out).mono ?_
    obtain ⟨⟨D1, E1⟩, hP1⟩ : ∃ P, sweepD (cleanSo V) D = P := ⟨_, rfl⟩
    have HR2 : Hid (R = (D1, E1)) := by
      show R = _
      rw [HR1.out, hP1]
    rw [hP1]
    simp only
    clear hP1 HR1
    rintro e w3 ⟨rfl, F3, hd3, hm3, hF3⟩
    have HD3 := Lib.hid hd3
    have HM3 := Lib.hid hm3
    have HF3 := Lib.hid hF3
    clear hd3 hm3 hF3
    go_wp2_with fail
    go_ret
    rw [HR2.out]
    exact ⟨rfl, F3, HD3.out, HMW.out.non.trans HM3.out fun k hk => .inl hk, fun k hk => (HF3.out k hk).imp id fun h => by have := HMW.out.size; omega⟩
  · rw [if_neg hcv] at HCK
    have HR1 : Hid (R = (D, 1)) := by
      show R = _
      rw [← HR.out]
      unfold cleanD
      rw [if_neg hcv]
    clear hcv HR
    go_enter Tryz.func20, Tryz.ntmps20
    go_wp2_with fail
    refine HN.out.mono ?_
    rintro e w1 ⟨rfl, hm1⟩
    have HM1 := Lib.hid hm1
    have hb := HBW.out _ HM1.out
    have y0 : w1.cell? ⟨w.heap.size, 0, none⟩ = some (.int .i64 gen) := hb.cell 0
    have y1 : w1.cell? ⟨w.heap.size, 1, none⟩ = some (.int .i64 next) := hb.cell 1
    have y2 : w1.cell? ⟨w.heap.size, 2, none⟩ = some (.int .i64 log) := hb.cell 2
    have y3 : w1.cell? ⟨w.heap.size, 3, none⟩ = some (.int .i64 seq) := hb.cell 3
    have y4 : w1.cell? ⟨w.heap.size, 4, none⟩ = some (.slice A n c) := hb.cell 4
    clear hm1 hb
    go_wp2_with fail
    refine (HCK.out w1 (HMA.out.trans0 HM1.out)).mono ?_
    rintro e w2 ⟨rfl, hm2⟩
    have HMW := Lib.hid (HMA.out.trans0 (HM1.out.trans0 hm2))
    clear hm2 y0 y1 y2 y3 y4
    go_wp2_with fail
    go_ret
    rw [HR1.out]
    exact ⟨rfl, F, HD.out.mod0 HMW.out, HMW.out.non, fun k hk => .inl hk⟩

set_option maxRecDepth 100000 in
set_option maxHeartbeats 400000 in
theorem clean_nil (x : Vw) (w : World) : Calls Tryz.prog 20 #[.pointer none, x.val] w fun e w' => e = .returned (.int .i64 1) ∧ Mod Non w w' := by
  obtain ⟨gen, next, log, seq, A, c, ms⟩ := x
  obtain ⟨n, hn⟩ : ∃ n, ms.length = n := ⟨_, rfl⟩
  unfold Vw.val
  simp only
  rw [hn]
  have HN := Lib.hid (noneC_nil (w.alloc (.cells #[.int .i64 gen, .int .i64 next, .int .i64 log, .int .i64 seq, .slice A n c] 34)))
  clear hn
  go_enter Tryz.func20, Tryz.ntmps20
  go_wp2_with (go_at_call 32; refine HN.out.mono ?_; rintro e w1 ⟨rfl, rfl⟩)
  go_ret
  exact ⟨rfl, (Mod.refl _ _).alloc _⟩

end Go.Proofs.YtdpjnpjmokncdaaGreatDoor

/- (*Disk).Ops; a disk that is never cut, across Append and Cut. -/
namespace Go.Proofs.YtdpjnpjmokncdaaGreatDoor
open Go.RowKit

set_option maxRecDepth 100000 in
set_option maxHeartbeats 400000 in
theorem atomLoad_any (d i : Nat) (x : Int) (w : World) (hc : w.cell? ⟨d, i, none⟩ = some (.int .i64 x)) :
    Calls Tryz.prog 66 #[.pointer (some ⟨d, i, none⟩)] w fun e w' => e = .returned (.int .i64 x) ∧ w = w' := by
  have hld := run_call_load (P := Tryz.prog) Tryz.func104 (by kernel_rfl) (by kernel_rfl) (by kernel_rfl) .i64 (by kernel_rfl) hc
  go_enter Tryz.func66, Tryz.ntmps66
  go_wp2
  go_ret
  exact ⟨rfl, rfl⟩

set_option maxRecDepth 100000 in
set_option maxHeartbeats 400000 in
theorem ops_any (F : Nat → Prop) (d : Nat) (D : Dk) (w : World) (h : DiskIs w F d D) :
    Calls Tryz.prog 26 #[.pointer (some ⟨d, 0, none⟩)] w fun e w' => e = .returned (.int .i64 D.done) ∧ w = w' := by
  obtain ⟨G, m, kvs, hA, _⟩ := h
  have c2 : w.cell? ⟨d, 2, none⟩ = some (.map (some m)) := hA.blk.cell 2
  have c3 : w.cell? ⟨d, 3, none⟩ = some (.int .i64 D.done) := hA.blk.cell 3
  generalize D.done = done at *
  clear hA
  go_enter Tryz.func26, Tryz.ntmps26
  go_wp2_with (first
    | (go_at_call 48; refine (made_yes d m _ c2).mono ?_; rintro e w' ⟨rfl, rfl⟩)
    | (go_at_call 66; refine (atomLoad_any d 3 done _ c3).mono ?_; rintro e w' ⟨rfl, rfl⟩))
  go_ret
  exact ⟨rfl, rfl⟩

theorem appendD_calm {D : Dk} (c : Calm D) (nm : ByteArray) (b : List UInt8) : Calm (appendD D nm b) := by
  unfold appendD
  split
  · split
    · rename_i h0
      obtain ⟨_, _, h3⟩ := spendE_zero h0
      rw [h3]
      exact ⟨c.off, by show max (D.left - 1) (-1) = -1; rw [c.left]; rfl⟩
    · rename_i h0
      rcases spendD_not h0 with e | e
      · rw [e]; exact c
      · exfalso
        unfold spendE at h0
        unfold spendD at e
        split at h0
        · rename_i h1
          rw [if_pos h1] at e
          have := congrArg Dk.off e
          rw [c.off] at this
          simp at this
        · split at h0
          · rename_i h2
            rw [c.left] at h2
            exact absurd h2 (by omega)
          · exact h0 rfl
  · exact c

/-- the version that counts, none: the empty one. -/
def Holds (D : Dk) (v : Vs) : Prop := (v = zeroV ∧ findF D.files curN = none) ∨ Counts D.files v
theorem Holds.load {D : Dk} {v : Vs} (h : Holds D v) : loadV D = some v := by
  rcases h with ⟨rfl, h⟩ | h
  · exact load_empty h
  · exact h.load
theorem Holds.crash {D : Dk} {v : Vs} (h : Holds D v) (picks : List Int) (L : List ByteArray) : Holds (crashD D picks L) v := by
  rcases h with ⟨rfl, h⟩ | h
  · exact .inl ⟨rfl, crashD_none picks L h⟩
  · exact .inr (h.crash picks L)
theorem Holds.append {D : Dk} {v : Vs} (h : Holds D v) (b : List UInt8) : Holds (appendD D shadN b) v := by
  rcases h with ⟨rfl, h⟩ | h
  · exact .inl ⟨rfl, by rw [appendD_other (fun e => shad_ne_cur e.symm)]; exact h⟩
  · exact .inr ⟨h.ok, by rw [appendD_other (fun e => shad_ne_cur e.symm)]; exact h.cur, by rw [appendD_other (man_ne_shad (checkV_gen h.ok))]; exact h.man⟩
theorem Holds.save {D : Dk} {v u : Vs} (c : Calm D) (ok : DkOk D) (h : Holds D v) : Holds (saveD D u).1 (if (saveD D u).2 = 0 then u else v) := by
  obtain ⟨_, _, h3⟩ := saveD_calm c ok u
  split
  · rename_i h0
    rcases saveD_went ok u with ⟨hb, _⟩ | ⟨hc, _, _, _⟩
    · exact absurd h0 hb
    · exact .inr hc
  · rename_i h0
    rcases h3 with h3 | h3
    · exact absurd h3 h0
    · rw [h3]; exact h

end Go.Proofs.YtdpjnpjmokncdaaGreatDoor
