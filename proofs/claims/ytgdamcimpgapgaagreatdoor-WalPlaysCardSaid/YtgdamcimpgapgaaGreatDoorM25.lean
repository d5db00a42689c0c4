/- wal.Segments where every file is a segment. -/
import Derived.Test.YtgdamcimpgapgaaGreatDoorM23
import Derived.Test.YtgdamcimpgapgaaGreatDoorM24
import Derived.Test.YtgdamcimpgapgaaGreatDoorM16
import Derived.Lib.AtoiErrMem
import Derived.Test.YtgdamcimpgapgaaGreatDoorM05
import Derived.BigQuiet
import Derived.Deep.QuietTactic
namespace Go.Proofs.YtgdamcimpgapgaaGreatDoor
open Go.RowKit

/-- an int as a cell. -/
def i64c (x : Int) : Value := .int .i64 x
theorem rowI : ∃ i, Tryz.prog.info? 3 = some i ∧ i.zero = some (.int .i64 0) ∧ i.size = 1 ∧ i.bytes = 8 := by
  obtain ⟨i, hi, h1, h2, h3⟩ := info_parts (P := Tryz.prog) (e := 3) (z := .int .i64 0) (size := 1) (bytes := 8) (by kernel_rfl)
  exact ⟨i, hi, h1, h2, h3⟩
theorem ints_one (l : List Int) : ∀ u ∈ l.map i64c, u.oneCell' = true := by
  intro u hu
  obtain ⟨b, _, rfl⟩ := List.mem_map.1 hu
  rfl
theorem wpList_appI {P : Program} {t e : TypeId} (ht : P.underlying t = some (.slice e)) (hT : ∃ i, P.info? e = some i ∧ i.zero = some (.int .i64 0) ∧ i.size = 1 ∧ i.bytes = 8) (w : World) {ops : Array Oper} {rest : List Oper} {o : Oper} {a : Act} {Q : Exit → Act → World → Prop} (hgd : o.guard = none) (s x : Operand)
    (ho : o.op = .call { callee := .builtin .append, args := #[s, x], argTypes := #[t, t] })
    (base : Nat) (v : Value) (n : Nat) (xs : List Int) (hs : a.eval s = v) (hown : w.ownsRow base e 1 v n (xs.map i64c))
    (A : Option Addr) (m c : Nat) (news : List Int) (hx : a.eval x = .slice A m c) (hr : Rd w A m (news.map i64c))
    (h63 : n + m ≤ 5000000000000) (hbase : base ≤ w.heap.size)
    (h : ∀ A' c' w', n + m ≤ c' → c' ≤ 9223372036854775807 → w'.ownsRow base e 1 (.slice A' (n + m) c') (n + m) ((xs ++ news).map i64c) → w.grownBy w' v.ownBlock → (blkOf A' = v.ownBlock ∨ blkOf A' = some w.heap.size) → wpList P ops Q rest (a.put o.dst (.slice A' (n + m) c')) w') : wpList P ops Q (o :: rest) a w := by
  obtain ⟨i, hi, hz, hs1, hb⟩ := hT
  refine wpList_app w hgd s x t ho base e i (.int .i64 0) 8 ht hi hz hs1 hb rfl v n (xs.map i64c) hs hown A m c (news.map i64c) hx hr (ints_one _) (by simp only [maxLen]; omega) (by omega) hbase ?_
  intro v' w' hown' hg hat
  obtain ⟨A', c', rfl, hc, hc2⟩ := own_slice hown'
  rw [← List.map_append] at hown'
  exact h A' c' w' hc hc2 hown' hg (by cases A' <;> exact hat)
theorem one_int (w : World) (t : TypeId) (x : Int) : Rd (w.alloc (.cells #[i64c x] t)) (some ⟨w.heap.size, 0, none⟩) 1 ([x].map i64c) := by
  refine ⟨rfl, fun _ => ⟨w.heap.size, 0, rfl, fun j u hu => ?_⟩⟩
  match j, hu with
  | 0, hu =>
    simp only [List.map_cons, List.map_nil, List.getElem?_cons_zero, Option.some.injEq] at hu
    subst hu
    simp

theorem cut_name {x : Nat} (h : x ≤ 1099511627776) : Lib.hasPrefix (walName x).data.toList [119, 97, 108, 47] = true ∧ Lib.trimPrefix (walName x).data.toList [119, 97, 108, 47] = digF 13 x := by
  have e : (walName x).data.toList = [119, 97, 108, 47] ++ digF 13 x := by rw [walName_dig h]
  have h1 : Lib.hasPrefix (walName x).data.toList [119, 97, 108, 47] = true := by
    rw [e]; unfold Lib.hasPrefix; simp [List.isPrefixOf]
  exact ⟨h1, by unfold Lib.trimPrefix; rw [if_pos h1, e]; rfl⟩

set_option maxRecDepth 100000 in
set_option maxHeartbeats 1000000 in
theorem segs_any (F : Nat → Prop) (d : Nat) (D : Dk) (w : World) (h : DiskIs w F d D) (ok : DkOk D) (hall : ∀ f ∈ D.files, ∃ x : Nat, x ≤ 1099511627776 ∧ f.name = walName x) :
    Calls Tryz.prog 11 #[.pointer (some ⟨d, 0, none⟩)] w fun e w' => ∃ A n c L, ∃ xs : List Nat, e = .returned (.slice A n c) ∧ NamesAre D L ∧ L = xs.map walName ∧ (∀ x ∈ xs, x ≤ 1099511627776) ∧ Rd w' A n ((xs.map fun x : Nat => (x : Int)).map i64c) ∧ n ≤ c ∧ c ≤ 9223372036854775807 ∧ (∀ b, blkOf A = some b → w.heap.size ≤ b) ∧ Mod Non w w' := by
  have HH := Lib.hid h
  have hfl := files_len ok
  have HO := Lib.hid ok
  have HA := Lib.hid hall
  have HLY := Lib.hid h.lay
  clear h ok hall
  go_enter Tryz.func11, Tryz.ntmps11
  go_wp2_with (go_at_call 37; refine (names_any F d D _ HH.out HO.out).mono ?_; rintro e w1 ⟨An, nn, cn, L, rfl, hL, hr1, hnn, hcn, hbn, hb1⟩)
  have hm1 : Mod Non w w1 := Mod.of_below hb1
  have hxs : ∃ xs : List Nat, L = xs.map walName ∧ ∀ x ∈ xs, x ≤ 1099511627776 := by
    have : ∀ nm ∈ L, ∃ x : Nat, x ≤ 1099511627776 ∧ nm = walName x := by
      obtain ⟨ss, hp, rfl⟩ := hL
      intro nm hn
      obtain ⟨l, hl, rfl⟩ := List.mem_map.1 hn
      have h2 := hp.mem_iff.1 (List.mem_mergeSort.1 hl)
      obtain ⟨f, hf, he⟩ := List.mem_map.1 h2
      obtain ⟨x, hx, hfx⟩ := HA.out f hf
      exact ⟨x, hx, by rw [← hfx, ← he]⟩
    clear hr1 hL
    induction L with
    | nil => exact ⟨[], rfl, by simp⟩
    | cons nm L ih =>
      obtain ⟨x, hx, rfl⟩ := this _ (.head _)
      obtain ⟨xs, h1, h2⟩ := ih fun q hq => this q (.tail _ hq)
      exact ⟨x :: xs, by rw [h1]; rfl, fun y hy => (List.mem_cons.1 hy).elim (fun e => e ▸ hx) (h2 y)⟩
  obtain ⟨xs, hLx, hxb⟩ := hxs
  have hnl : xs.length = nn := by have := hr1.1; rw [hLx] at this; simpa using this
  have hnn2 : nn ≤ 1099511627776 := by
    obtain ⟨ss, hp, hLe⟩ := hL
    have h1 := hp.length_eq
    have h2 : L.length = ss.length := by rw [hLe]; simp
    have h3 : L.length = xs.length := by rw [hLx]; simp
    simp only [List.length_map] at h1
    omega
  have HNL := Lib.hid hnl
  have HXB := Lib.hid hxb
  have HL := Lib.hid hL
  have HLX := Lib.hid hLx
  have HM1 := Lib.hid hm1
  have HR1 := Lib.hid hr1
  have hs1 := hm1.size
  clear hnl hxb hL hm1 hr1 hb1 hfl
  go_loopw [3, 13] (fun v i wr => ∃ j : Nat, j ≤ nn ∧ i = .int .i64 j ∧ wr.ownsRow w1.heap.size 3 1 v j (((xs.take j).map fun x : Nat => (x : Int)).map i64c) ∧ Hid (Mod Non w1 wr)) (fun _ i _ => nn - (intOf i).toNat)
  case atStart => exact ⟨0, Nat.zero_le _, rfl, World.ownsRow_nil _ _ _ _, Mod.refl _ _⟩
  case round =>
    obtain ⟨j, hj, rfl, hown, HMr⟩ := hrel
    obtain ⟨Av, cv, rfl, hcv, hcv2⟩ := own_slice hown
    by_cases hlt : j < nn
    · obtain ⟨b, o, rfl, u, hu, hc⟩ := (HR1.out.mod0 HMr.out).at_ hlt
      rw [HLX.out, List.getElem?_map, List.getElem?_map] at hu
      cases hx : xs[j]? with
      | none => rw [hx] at hu; cases hu
      | some x =>
        rw [hx] at hu
        simp only [Option.map_some, Option.some.injEq] at hu
        subst hu
        have hxb := HXB.out x (List.mem_of_getElem? hx)
        obtain ⟨hp1, hp2⟩ := cut_name hxb
        obtain ⟨nm, hnm⟩ : ∃ nm, walName x = nm := ⟨_, rfl⟩
        obtain ⟨dg, hdg⟩ : ∃ dg : ByteArray, (⟨(digF 13 x).toArray⟩ : ByteArray) = dg := ⟨_, rfl⟩
        have HP1 : Hid (Lib.hasPrefix nm.data.toList (ByteArray.mk #[119, 97, 108, 47]).data.toList = true) := by rw [← hnm]; exact hp1
        have HP2 : Hid ((⟨(Lib.trimPrefix nm.data.toList (ByteArray.mk #[119, 97, 108, 47]).data.toList).toArray⟩ : ByteArray) = dg) := by
          show _ = _
          rw [← hnm, ← hdg]
          exact congrArg (fun l : List UInt8 => (⟨l.toArray⟩ : ByteArray)) hp2
        have HAT : Hid (Lib.atoi dg.data.toList = some (x : Int)) := by
          show _ = _
          rw [← hdg]
          exact atoi_digF (Nat.lt_of_le_of_lt hxb (by decide))
        have hds : dg.size ≤ 18 := by rw [← hdg]; simp [ByteArray.size, digF_len]
        have HNW : Hid (nameW (x : Int) = nm) := by show _ = _; rw [nameW_yes (by omega) (by omega), ← hnm]; rfl
        have HX := Lib.hid hx
        rw [hnm] at hc
        have hown' := hown
        have HOWN := Lib.hid hown
        have hrow := hown.lt
        have hszr := HMr.out.size
        clear hp1 hp2 hnm hdg hx hown hown'
        go_wp2_with (first
          | (go_at_call 38
             refine (Tryz.strings_CutPrefix nm ⟨#[119, 97, 108, 47]⟩ _).mono ?_
             rw [HP1.out, HP2.out]
             rintro e w2 ⟨rfl, hw2⟩
             have hw2' := hw2.symm
             subst hw2')
          | (go_at_call 39
             refine (Tryz.strconv_Atoi dg (x : Int) hds HAT.out _).mono ?_
             rintro e w3 ⟨rfl, t3, hw3⟩
             have hm3 : Mod Non wr w3 := by { rw [hw3]; exact Mod.of_below (Lib.bytesWorld_below _ _ _) }
             clear hw3)
          | (go_at_call 9
             refine (name_any (x : Int) _ (((HLY.out.mod0 HM1.out).mod0 HMr.out).mod0 hm3)).mono ?_
             rw [HNW.out]
             rintro e w4 ⟨rfl, hm4⟩
             have hm34 := hm3.trans0 hm4
             have hsz4 := hm34.size
             have hown4 := own_mod (S := Non) HOWN.out hm34 (fun _ _ h => h)
             have HONE := Lib.hid (one_int w4 3 x))
          | (at_builtin
             refine wpList_appI Tryz.underlying22 rowI _ rfl (.tmp 38) (.tmp 40) rfl w1.heap.size (.slice Av j cv) j ((xs.take j).map fun x : Nat => (x : Int)) rfl (hown4.alloc _) _ 1 1 [(x : Int)] rfl HONE.out (by omega) (by simp; omega) ?_
             intro A' c' w' hc' hcm' hown' hg' hat'))
        have hmg : Mod (fun g => (Value.slice Av j cv).ownBlock = some g) (w4.alloc (.cells #[.int .i64 (x : Int)] 3)) w' := Mod.of_grown hg' fun _ h => h
        have hbase := own_base HOWN.out
        go_roundw
        case rel =>
          refine ⟨j + 1, by omega, by go_num, ?_, ?_⟩
          · rw [take_snoc' xs j x HX.out, List.map_append]
            exact hown'
          · exact ((HMr.out.trans0 hm34).alloc _).trans hmg fun g hg => .inr (hrow g hg).1
        case measure => simp [intOf]; omega
    · obtain rfl : j = nn := by omega
      go_wp2_with fail
      go_ret
      have hbase := own_base hown
      have hr := Rd.of_own hown
      rw [List.take_of_length_le (by rw [HNL.out]; omega)] at hr
      exact ⟨Av, j, cv, L, xs, rfl, HL.out, HLX.out, HXB.out, hr, hcv, hcv2, fun b hb => Nat.le_trans hs1 (hbase b hb), HM1.out.trans0 HMr.out⟩

end Go.Proofs.YtgdamcimpgapgaaGreatDoor

/- sawyerlaw05.sameInts. -/
namespace Go.Proofs.YtgdamcimpgapgaaGreatDoor
open Go.RowKit

set_option maxRecDepth 100000 in
set_option maxHeartbeats 1000000 in
theorem sameInts_any (A B : Option Addr) (n m c d : Nat) (xs ys : List Int) (w : World) (hx : Rd w A n (xs.map i64c)) (hy : Rd w B m (ys.map i64c)) (hn : n ≤ 9223372036854775807) (hm : m ≤ 9223372036854775807) :
    Calls Tryz.prog 15 #[.slice A n c, .slice B m d] w fun e w' => e = .returned (.bool (decide (xs = ys))) ∧ Mod Non w w' := by
  have hlx : xs.length = n := by simpa using hx.1
  have hly : ys.length = m := by simpa using hy.1
  by_cases hnm : n = m
  · subst hnm
    have HLX := Lib.hid hlx
    have HLY := Lib.hid hly
    have HX := Lib.hid hx
    have HY := Lib.hid hy
    clear hlx hly hx hy
    go_enter Tryz.func15, Tryz.ntmps15
    go_wp2
    go_loopw [5] (fun i wr => ∃ k : Nat, k ≤ n ∧ i = .int .i64 k ∧ Mod Non w wr ∧ Hid (xs.take k = ys.take k)) (fun i _ => n - (intOf i).toNat)
    case atStart => exact ⟨0, Nat.zero_le _, rfl, Mod.refl _ _, rfl⟩
    case round =>
      obtain ⟨k, hk, rfl, hmod, HE⟩ := hrel
      have HM := Lib.hid hmod
      clear hmod
      by_cases hlt : k < n
      · obtain ⟨b, o, rfl, u, hu, hc⟩ := (HX.out.mod0 HM.out).at_ hlt
        obtain ⟨b', o', rfl, u', hu', hc'⟩ := (HY.out.mod0 HM.out).at_ hlt
        rw [List.getElem?_map] at hu hu'
        cases hq : xs[k]? with
        | none => rw [hq] at hu; cases hu
        | some x =>
          cases hq' : ys[k]? with
          | none => rw [hq'] at hu'; cases hu'
          | some y =>
            rw [hq] at hu
            rw [hq'] at hu'
            simp only [Option.map_some, Option.some.injEq] at hu hu'
            subst hu
            subst hu'
            have HQ := Lib.hid hq
            have HQ' := Lib.hid hq'
            simp only [i64c] at hc hc'
            have i1 : (0 : Int) ≤ (k : Int) := by omega
            have i2 : (k : Int) < (n : Int) := by omega
            clear hq hq'
            by_cases he : x = y
            · subst he
              go_wp2
              go_quiet (fail)
              go_wp2
              go_roundw
              case rel =>
                refine ⟨k + 1, by omega, by go_num, HM.out.drewN _, ?_⟩
                show xs.take (k + 1) = ys.take (k + 1)
                rw [take_snoc' _ k x HQ.out, take_snoc' ys k x HQ'.out, HE.out]
              case measure => simp [intOf]; omega
            · have hs2 : (x == y) = false := beq_eq_false_iff_ne.2 he
              go_wp2
              go_quiet (fail)
              go_wp2
              go_ret
              have e0 : decide (xs = ys) = false := decide_eq_false fun e => by
                rw [e, HQ'.out] at HQ
                have := HQ.out
                simp only [Option.some.injEq] at this
                exact he this.symm
              exact ⟨by rw [e0]; rfl, HM.out.drewN _⟩
      · obtain rfl : k = n := by omega
        go_wp2
        go_ret
        have e0 : decide (xs = ys) = true := decide_eq_true (by
          have e := HE.out
          rwa [List.take_of_length_le (by rw [HLX.out]; omega), List.take_of_length_le (by rw [HLY.out]; omega)] at e)
        exact ⟨by rw [e0]; rfl, HM.out⟩
  · have h1 : ((n : Int) == (m : Int)) = false := by simp; omega
    have h2 : ¬ ((n : Int) = (m : Int)) := by omega
    go_enter Tryz.func15, Tryz.ntmps15
    go_wp2
    go_ret
    have e0 : decide (xs = ys) = false := decide_eq_false fun e => by
      have := congrArg List.length e
      omega
    exact ⟨by rw [e0]; rfl, Mod.refl _ _⟩

end Go.Proofs.YtgdamcimpgapgaaGreatDoor
