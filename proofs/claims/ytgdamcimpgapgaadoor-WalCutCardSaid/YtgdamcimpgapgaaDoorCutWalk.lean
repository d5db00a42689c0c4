/- sawyerlaw05.WalCut: the walk. -/
import Derived.Test.YtgdamcimpgapgaaDoorRoom
import Derived.Test.YtgdamcimpgapgaaDoorCrash2
import Derived.Test.YtgdamcimpgapgaaDoorPlain4
namespace Go.Proofs.YtgdamcimpgapgaaDoor
open Go.RowKit

/-- how things stand at the head of the loop. -/
structure CutI (w : World) (xs : List Bs) (kk : Int) (F' : Nat → Prop) (d : Nat) (D' : Dk) (ys : List Bs) (v : Value) (q : Nat) (wr : World) : Prop where
  disk : DiskIs wr F' d D'
  ok : DkOk D'
  off : D'.off = false
  n : D'.n = 1099511627776
  used : D'.used ≤ 1100000 * (q : Int)
  one : ∃ ex, One (nameW kk) D' ex (framesB (ys.map (·.l))).length (framesB (ys.map (·.l))) ∧ (ex = false → ys = [])
  mod : Mod Non w wr
  ys : ∀ x ∈ ys, x ∈ xs ∧ x.l.length ≤ 1048576
  far : ∀ g, F' g → w.heap.size ≤ g ∧ v.ownBlock ≠ some g

/-- append of slices to a slice of slices, at a guarded operation. -/
theorem wp_appS {P : Program} {t e : TypeId} (ht : P.underlying t = some (.slice e)) (hT : ∃ i, P.info? e = some i ∧ i.zero = some (.slice none 0 0) ∧ i.size = 1 ∧ i.bytes = 24) (w : World) {o : Oper} {a : Act} {K : Act → World → Prop} {Q : Exit → Act → World → Prop} (s x : Operand)
    (ho : o.op = .call { callee := .builtin .append, args := #[s, x], argTypes := #[t, t] })
    (base : Nat) (v : Value) (n : Nat) (xs : List Bs) (hs : a.eval s = v) (hown : w.ownsRow base e 1 v n (xs.map Bs.val))
    (A : Option Addr) (m c : Nat) (news : List Bs) (hx : a.eval x = .slice A m c) (hr : Rd w A m (news.map Bs.val))
    (h63 : n + m ≤ 5000000000000) (hbase : base ≤ w.heap.size)
    (h : ∀ A' c' w', n + m ≤ c' → c' ≤ 9223372036854775807 → w'.ownsRow base e 1 (.slice A' (n + m) c') (n + m) ((xs ++ news).map Bs.val) → w.grownBy w' v.ownBlock → (blkOf A' = v.ownBlock ∨ blkOf A' = some w.heap.size) → K (a.put o.dst (.slice A' (n + m) c')) w') : o.wp P a w K Q := by
  obtain ⟨i, hi, hz, hs1, hb⟩ := hT
  refine wp_app w s x t ho base e i (.slice none 0 0) 24 ht hi hz hs1 hb rfl v n (xs.map Bs.val) hs hown A m c (news.map Bs.val) hx hr (bs_one _) (by simp only [maxLen]; omega) (by omega) hbase ?_
  intro v' w' hown' hg hat
  obtain ⟨A', c', rfl, hc, hc2⟩ := own_slice hown'
  rw [← List.map_append] at hown'
  exact h A' c' w' hc hc2 hown' hg (by cases A' <;> exact hat)

theorem wpList_appSW {P : Program} {t e : TypeId} (ht : P.underlying t = some (.slice e)) (hT : ∃ i, P.info? e = some i ∧ i.zero = some (.slice none 0 0) ∧ i.size = 1 ∧ i.bytes = 24) (w : World) {ops : Array Oper} {rest : List Oper} {o : Oper} {a : Act} {Q : Exit → Act → World → Prop} (hw : Region.wanted o (yielded ops a.tmps) = true) (s x : Operand)
    (ho : o.op = .call { callee := .builtin .append, args := #[s, x], argTypes := #[t, t] })
    (base : Nat) (v : Value) (n : Nat) (xs : List Bs) (hs : a.eval s = v) (hown : w.ownsRow base e 1 v n (xs.map Bs.val))
    (A : Option Addr) (m c : Nat) (news : List Bs) (hx : a.eval x = .slice A m c) (hr : Rd w A m (news.map Bs.val))
    (h63 : n + m ≤ 5000000000000) (hbase : base ≤ w.heap.size)
    (h : ∀ A' c' w', n + m ≤ c' → c' ≤ 9223372036854775807 → w'.ownsRow base e 1 (.slice A' (n + m) c') (n + m) ((xs ++ news).map Bs.val) → w.grownBy w' v.ownBlock → (blkOf A' = v.ownBlock ∨ blkOf A' = some w.heap.size) → wpList P ops Q rest (a.put o.dst (.slice A' (n + m) c')) w') : wpList P ops Q (o :: rest) a w :=
  BigFrame.wpList_want hw fun _ hK => wp_appS ht hT w s x ho base v n xs hs hown A m c news hx hr h63 hbase fun A' c' w' h1 h2 h3 h4 h5 => hK _ _ (h A' c' w' h1 h2 h3 h4 h5)

theorem framesB_snoc (l : List (List UInt8)) (b : List UInt8) : framesB (l ++ [b]) = framesB l ++ frameB b := by rw [framesB_append]; simp [framesB]

set_option maxRecDepth 100000 in
set_option maxHeartbeats 2000000 in
theorem cut_walk (nn cut : Int) (A B : Option Addr) (n c m k : Nat) (xs : List Bs) (picks : List Int) (w : World) (hL : Lay w) (hx : RdS w A n xs) (hy : Rd w B m (picks.map (Value.int .i64))) (hm : m ≤ 9223372036854775807) (hn : n ≤ 9223372036854775807) (hl : ∀ x ∈ xs, x.n ≤ 9223372036854775807) :
    Calls Tryd.prog 5 #[.int .i64 nn, .slice A n c, .int .i64 cut, .slice B m k] w fun e w' => e = .returned (.bool true) ∧ Mod Non w w' := by
  obtain ⟨kk, hkk⟩ : ∃ kk, nn % 65536 = kk := ⟨_, rfl⟩
  obtain ⟨cc, hcc⟩ : ∃ cc, cut % 64 = cc := ⟨_, rfl⟩
  have hk0 : 0 ≤ kk := by omega
  have hk1 : kk < 65536 := by omega
  have hc0 : 0 ≤ cc := by omega
  have hc1 : cc < 64 := by omega
  have hak : bits .and .i64 nn 65535 = kk := by rw [and65535, hkk]
  have hac : bits .and .i64 cut 63 = cc := by rw [and63, hcc]
  have HL := Lib.hid hL
  have HX := Lib.hid hx
  have HY := Lib.hid hy
  have hlx : xs.length = n := by simpa using hx.1.1
  have HLX := Lib.hid hlx
  have HC1 : Hid (cutD (newD 1099511627776) cc = { newD 1099511627776 with left := cc }) := by
    show _ = _
    unfold cutD
    rw [if_neg (by simp [newD]; omega)]
  have HC2 : Hid (cutE cc = 0) := by show _ = _; unfold cutE; rw [if_neg (by omega)]
  clear hL hx hy hlx hkk hcc
  go_enter Tryd.func5, Tryd.ntmps5
  go_wp2_with (first
    | (go_at_call 6; refine (awake_any _ HL.out).mono ?_; rintro e w1 ⟨rfl, hm1⟩; have HM1 := Lib.hid hm1)
    | (go_at_call 7; refine (new_yes 1099511627776 _ (HL.out.mod0 HM1.out) (by omega) (by omega)).mono ?_; rintro e w2 ⟨d, F, rfl, hd2, hb2, hF2⟩; have HM2 := Lib.hid (HM1.out.trans0 (Mod.of_below hb2)); have HD2 := Lib.hid hd2; have HF2 := Lib.hid hF2; have hs1 := HM1.out.size; clear hd2 hb2 hF2)
    | (go_at_call 16; refine (cut_any F d (newD 1099511627776) cc _ HD2.out).mono ?_; rw [HC1.out, HC2.out]; rintro e w3 ⟨rfl, F3, hd3, hm3, hF3⟩; have HD3 := Lib.hid hd3; have HM3 := Lib.hid (HM2.out.trans hm3 fun g hg => .inr (by have := HF2.out g hg; omega)); have HF3 : Hid (∀ g, F3 g → w.heap.size ≤ g) := fun g hg => (hF3 g hg).elim (fun h => by have := HF2.out g h; omega) (fun h => by have := HM2.out.size; omega); clear hd3 hm3 hF3))
  have HRP : Hid (∀ (W : World) (F' : Nat → Prop), Mod Non w W → (∀ g, F' g → w.heap.size ≤ g) → RdO W F' B m (picks.map (Value.int .i64))) := fun W F' hW hF' => ⟨HY.out.mod0 hW, fun hm0 g hg hs => by
    obtain ⟨g', hg', hlt'⟩ := HY.out.lt hm0
    rw [hg] at hg'
    cases hg'
    have := hF' g hs
    omega⟩
  have hnm17 := nameW_size kk
  have HXR : Hid (∀ (W : World) (ys : List Bs), Mod Non w W → (∀ x ∈ ys, x ∈ xs ∧ x.l.length ≤ 1048576) → ∀ x ∈ ys, Rd W x.A x.n (by8 x.l)) := fun W ys hW hys x hx => (HX.out.2 x (hys x hx).1).mod0 hW
  clear hs1
  go_loopw [13, 14, 15, 16] (fun v _ i _ wr => ∃ (q : Nat) (F' : Nat → Prop) (D' : Dk) (ys : List Bs), q ≤ n ∧ q ≤ 40 ∧ i = .int .i64 q ∧ Hid (CutI w xs kk F' d D' ys v q wr) ∧ wr.ownsRow w.heap.size 23 1 v ys.length (ys.map Bs.val) ∧ ys.length ≤ q) (fun _ _ i _ _ => n - (intOf i).toNat)
  case atStart =>
    refine ⟨0, F3, { newD 1099511627776 with left := cc }, [], Nat.zero_le _, by omega, rfl, ⟨HD3.out, ⟨by simp [newD], by simp [newD], by simp [newD], by simp [newD], by simp only; omega, by simp only; omega, rfl, by simp [newD], by simp [newD], by simp [newD]⟩, rfl, rfl, by simp [newD], ⟨false, ⟨rfl, fun _ => ⟨rfl, rfl⟩⟩, fun _ => rfl⟩, HM3.out, by simp, fun g hg => ⟨HF3.out g hg, by simp [Value.ownBlock]⟩⟩, World.ownsRow_nil _ _ _ _, by simp⟩
  case round =>
    obtain ⟨q, F', D', ys, hqn, hq40, rfl, HINV, hown, hyl⟩ := hrel
    obtain ⟨Av, cv, rfl, hcv, hcv2⟩ := own_slice hown
    by_cases hlt : q < n ∧ q < 40
    · obtain ⟨hlt, hlt40⟩ := hlt
      obtain ⟨b, o, p, rfl, hp, hc, hr⟩ := (HX.out.mod0 HINV.out.mod).at_ hlt
      have HD := Lib.hid HINV.out.disk
      have HMOD := Lib.hid HINV.out.mod
      have HFF := Lib.hid HINV.out.far
      have HO := Lib.hid HINV.out.ok
      have hpx : p ∈ xs := List.mem_of_getElem? hp
      have HPX := Lib.hid hpx
      have hpn := hl p hpx
      obtain ⟨pA, pn, pc, pl⟩ := p
      simp only [Bs.val] at hc hr hpn
      have hpl : pl.length = pn := by simpa using hr.1
      have HPL := Lib.hid hpl
      have hrow := hown.lt
      have HOWN := Lib.hid hown
      have hrw : wr.heap.size ≥ w.heap.size := HMOD.out.size
      obtain ⟨b0, o0, hbo, u0, hu0, hcw⟩ := HX.out.1.at_ hlt
      cases hbo
      have hb0 : b < w.heap.size := World.block_lt_of_cell? w ⟨b, o + q, none⟩ hcw
      have HR := Lib.hid hr
      clear hcw hu0 hpx hp hpl hown hr
      by_cases hsm : pn ≤ 1048576
      · obtain ⟨ex, hone, hexy⟩ := HINV.out.one
        have hroom : 1100000 ≤ D'.n - D'.used := by
          have h1 := HINV.out.n; have h2 := HINV.out.used; omega
        rcases add_two hk0 (by omega) rfl hone HINV.out.off (b := pl) (by rw [HPL.out]; exact hsm) hroom with ⟨a1, a2, a3, a4, a5⟩ | ⟨a1, a2, a3⟩
        · obtain ⟨D2, hD2⟩ : ∃ D2, (addB D' kk pl).1 = D2 := ⟨_, rfl⟩
          rw [hD2] at a2 a3 a4 a5
          have HA1 : Hid ((addB D' kk pl).1 = D2) := hD2
          have HA2 : Hid ((addB D' kk pl).2 = 0) := a1
          have HO2 : Hid (DkOk D2) := by { show DkOk D2; rw [← hD2]; exact add_ok HO.out kk pl }
          have HB : Hid (D2.off = false ∧ D2.n = D'.n ∧ D2.used ≤ D'.used + 1100000 ∧ One (nameW kk) D2 true (framesB (ys.map (·.l)) ++ frameB pl).length (framesB (ys.map (·.l)) ++ frameB pl)) := ⟨a2, a3, a4, a5⟩
          clear a1 a2 a3 a4 a5 hD2 hone hexy hroom
          go_wp2_with (first
            | (go_at_call 8
               refine (add_wal F' d D' kk pA pn pc pl _ HD.out HO.out HR.out hpn).mono ?_
               rw [HA1.out, HA2.out]
               rintro e w5 ⟨rfl, F5, hd5, hm5, hF5⟩
               have HD5 := Lib.hid hd5
               have HM5 := Lib.hid hm5
               have HF5 := Lib.hid hF5
               have hsz5 := hm5.size
               clear hd5 hm5 hF5
               have hc5 : w5.cell? ⟨b, o + q, none⟩ = some (.slice pA pn pc) := HM5.out.cell hc (fun h => by have := (HFF.out _ h).1; simp only at this; omega))
            | (at_builtin
               have hown5 := own_mod (S := F') HOWN.out HM5.out (fun g hg h => (HFF.out g h).2 hg)
               refine wpList_appS Tryd.underlying22 rowT _ rfl (.tmp 68) (.tmp 73) rfl w.heap.size (.slice Av ys.length cv) ys.length ys rfl (hown5.alloc _) _ 1 1 [⟨pA, pn, pc, pl⟩] rfl (one_row w5 23 ⟨pA, pn, pc, pl⟩) (by omega) (by simp; omega) ?_
               intro A' c' w' hc' hcm' hown' hg' hat'))
          have hM5a : Mod F' wr (w5.alloc (.cells #[.slice pA pn pc] 23)) := HM5.out.alloc _
          have hmg : Mod (fun g => (Value.slice Av ys.length cv).ownBlock = some g) (w5.alloc (.cells #[.slice pA pn pc] 23)) w' := Mod.of_grown hg' fun _ h => h
          have hnF : ∀ g, F5 g → (Value.slice Av ys.length cv).ownBlock ≠ some g := fun g hg h => by
            rcases HF5.out g hg with h2 | h2
            · exact (HFF.out g h2).2 h
            · have := (hrow g h).2; omega
          have hlt5 := HD5.out.flt
          have hD6 : DiskIs w' F5 d D2 := (HD5.out.mod0 ((Mod.refl Non w5).alloc (.cells #[.slice pA pn pc] 23))).mod hmg (fun g hg h => hnF g hg h) (fun h => by have := (hrow _ h).1; have := HL.out.lt; omega)
          go_roundw
          case rel =>
            obtain ⟨k1, k2, k3, k4⟩ := HB.out
            have h1 := HINV.out.n
            have h2 := HINV.out.used
            refine ⟨q + 1, F5, D2, ys ++ [⟨pA, pn, pc, pl⟩], by omega, by omega, by go_num, ⟨hD6, HO2.out, k1, by rw [k2, h1], by push_cast; omega, ⟨true, by rw [List.map_append, List.map_cons, List.map_nil, framesB_snoc]; exact k4, fun h => by cases h⟩, ?_, ?_, ?_⟩, by simpa using hown', by simp; omega⟩
            · exact ((HMOD.out.trans hM5a fun g hg => .inr (HFF.out g hg).1).trans hmg fun g hg => .inr (hrow g hg).1)
            · intro x hx
              rcases List.mem_append.1 hx with hx | hx
              · exact HINV.out.ys x hx
              · simp only [List.mem_singleton] at hx
                subst hx
                exact ⟨HPX.out, by simp only; rw [HPL.out]; exact hsm⟩
            · intro g hg
              refine ⟨?_, fun h => ?_⟩
              · rcases HF5.out g hg with h2 | h2
                · exact (HFF.out g h2).1
                · omega
              · have h3 : blkOf A' = some g := by cases A' <;> exact h
                rcases hat' with h4 | h4
                · rw [h4] at h3; exact hnF g hg h3
                · rw [h4] at h3
                  cases h3
                  have := hlt5 _ hg
                  simp at this
                  omega
          case measure => simp [intOf]; omega
        · obtain ⟨ex', part, a4, a5, a6⟩ := a3
          obtain ⟨D2, hD2⟩ : ∃ D2, (addB D' kk pl).1 = D2 := ⟨_, rfl⟩
          rw [hD2] at a2 a4
          have HA1 : Hid ((addB D' kk pl).1 = D2) := hD2
          have HA2 : Hid ((addB D' kk pl).2 = 5) := a1
          have HO2 : Hid (DkOk D2) := by { show DkOk D2; rw [← hD2]; exact add_ok HO.out kk pl }
          have HCE : Hid (CutEnd (nameW kk) D2 (ys.map (·.l)) pl true) := ⟨a2, ⟨ex', part, a4, a5, (fun h => by cases h), fun h => by
            cases hex : ex with
            | false => rw [hexy hex]; rfl
            | true => rw [a6 hex] at h; cases h⟩, fun b hb => by
            obtain ⟨x, hx, rfl⟩ := List.mem_map.1 hb
            exact (HINV.out.ys x hx).2, fun _ => by rw [HPL.out]; exact hsm⟩
          clear a1 a2 a4 a5 a6 hD2 hone hexy hroom
          go_wp2_with (first
            | (go_at_call 8
               refine (add_wal F' d D' kk pA pn pc pl _ HD.out HO.out HR.out hpn).mono ?_
               rw [HA1.out, HA2.out]
               rintro e w5 ⟨rfl, F5, hd5, hm5, hF5⟩
               have HD5 := Lib.hid hd5
               have HM5 := Lib.hid hm5
               have HF5 := Lib.hid hF5
               have hsz5 := hm5.size
               clear hd5 hm5 hF5
               have hc5 : w5.cell? ⟨b, o + q, none⟩ = some (.slice pA pn pc) := HM5.out.cell hc (fun h => by have := (HFF.out _ h).1; simp only at this; omega)))
          have HFF5 : Hid (∀ g, F5 g → w.heap.size ≤ g ∧ (Value.slice Av ys.length cv).ownBlock ≠ some g) := fun g hg => by
            rcases HF5.out g hg with h2 | h2
            · exact HFF.out g h2
            · exact ⟨by omega, fun h => by have := (hrow g h).2; omega⟩
          have HM5w : Hid (Mod Non w w5) := HMOD.out.trans HM5.out fun g hg => .inr (HFF.out g hg).1
          have HOWN5 := Lib.hid (own_mod (S := F') HOWN.out HM5.out (fun g hg h => (HFF.out g h).2 hg))
          clear hc5 hrow
          refine (off_any F5 d D2 _ HD5.out).mono ?_
          rintro e wa ⟨rfl, rfl⟩
          rw [HCE.out.off]
          go_wp2_with fail
          refine (crash_any F5 d D2 B m k picks _ HD5.out HO2.out (HRP.out _ _ HM5w.out (fun g hg => (HFF5.out g hg).1)) hm).mono ?_
          rintro e w7 ⟨L, hL7, rfl, F7, hd7, hm7, hF7⟩
          have HL7 := Lib.hid hL7
          have HD7 := Lib.hid hd7
          have HM7 : Hid (Mod Non w w7) := HM5w.out.trans hm7 fun g hg => .inr (HFF5.out g hg).1
          have HOWN7 := Lib.hid (own_mod HOWN5.out hm7 (fun g hg h => (HFF5.out g h).2 hg))
          clear hL7 hd7 hm7 hF7
          go_wp2_with fail
          refine (replay_any F7 d (crashD D2 picks L) kk _ HD7.out (crashD_ok HO2.out picks L)).mono ?_
          rintro e w8 hp
          unfold RpPost at hp
          rw [if_pos (by omega)] at hp
          rcases cut_final HCE.out HL7.out picks with ⟨hnone, hsure⟩ | ⟨f, hf, hrep⟩
          · rw [hnone] at hp
            dsimp only at hp
            obtain ⟨rfl, hm8⟩ := hp
            have hz : ys.length = 0 := by simpa using congrArg List.length hsure
            have HM8 := Lib.hid (HM7.out.trans0 hm8)
            have hzb : ((ys.length : Int) == 0) = true := by rw [hz]; rfl
            clear hnone hsure hm8 hz
            go_wp2_with fail
            go_ret
            exact ⟨rfl, HM8.out⟩
          · rw [hf] at hp
            dsimp only at hp
            obtain ⟨A8, k8, c8, zs, rfl, hrow8, hzl, hm8⟩ := hp
            have HM8 := Lib.hid (HM7.out.trans0 hm8)
            have HOWN8 := Lib.hid (own_mod HOWN7.out hm8 (fun _ _ h => h))
            have hk8 := hrow8.nc
            have hc8 := hrow8.cm
            have HROW := Lib.hid hrow8
            have hS2 : RdS w8 Av ys.length ys := ⟨Rd.of_own HOWN8.out, HXR.out _ _ HM8.out HINV.out.ys⟩
            have HS2 := Lib.hid hS2
            clear hf hm8 hrow8 hS2
            rcases hrep with e1 | ⟨hft, e1⟩
            · rw [e1] at hzl
              have HZ := Lib.hid hzl
              clear hzl e1
              go_wp2_with fail
              refine (same_any A8 Av k8 ys.length c8 cv zs ys _ HROW.out.rds HS2.out (by omega) (by omega)).mono ?_
              rw [decide_eq_true HZ.out]
              rintro e w9 ⟨rfl, hm9⟩
              have HM9 := Lib.hid (HM8.out.trans0 hm9)
              clear hm9
              go_wp2_with fail
              go_ret
              exact ⟨rfl, HM9.out⟩
            · rw [e1] at hzl
              have HZ := Lib.hid hzl
              clear hzl e1 hft
              have hne : decide (zs.map (·.l) = ys.map (·.l)) = false := decide_eq_false fun e => by
                have := congrArg List.length (HZ.out.symm.trans e)
                simp at this
              go_wp2_with fail
              refine (same_any A8 Av k8 ys.length c8 cv zs ys _ HROW.out.rds HS2.out (by omega) (by omega)).mono ?_
              rw [hne]
              rintro e w9 ⟨rfl, hm9⟩
              have HM9 := Lib.hid (HM8.out.trans0 hm9)
              have HOWN9 := Lib.hid (own_mod HOWN8.out hm9 (fun _ _ h => h))
              have HROW9 := Lib.hid (HROW.out.rds.mod0 hm9)
              have hs9 := HM9.out.size
              clear hm9 hne
              go_wp2_with (first
                | (at_builtin
                   refine wpList_appSW Tryd.underlying22 rowT _ rfl (.tmp 99) (.tmp 101) rfl w.heap.size (.slice Av ys.length cv) ys.length ys rfl (HOWN9.out.alloc _) _ 1 1 [⟨pA, pn, pc, pl⟩] rfl (one_row w9 23 ⟨pA, pn, pc, pl⟩) (by omega) (by simp; omega) ?_
                   intro A' c' w' hc' hcm' hown' hg' hat'))
              have hmg : Mod (fun g => (Value.slice Av ys.length cv).ownBlock = some g) (w9.alloc (.cells #[.slice pA pn pc] 23)) w' := Mod.of_grown hg' fun _ h => h
              have hlt9 := HOWN9.out.lt
              have hM9' : Mod Non w w' := (HM9.out.alloc _).trans hmg fun g hg => .inr (hlt9 g hg).1
              have hlt8 := HOWN8.out.lt
              have hZ8 : RdS w' A8 k8 zs := by
                have hown8 := HROW.out.own
                have hr1 := HROW9.out.1.alloc (.cells #[.slice pA pn pc] 23)
                refine ⟨hr1.mod hmg fun _ g hg h => ?_, fun x hx => ((HROW9.out.2 x hx).alloc _).mod hmg fun _ g hg h => ?_⟩
                · have h1 := hown8 g hg
                  have h2 := (HOWN7.out.lt g h).2
                  omega
                · have h1 := (HROW.out.rows x hx).2.1 g hg
                  have h2 := (HOWN7.out.lt g h).2
                  omega
              have hY8 : RdS w' A' (ys.length + 1) (ys ++ [⟨pA, pn, pc, pl⟩]) := by
                refine ⟨by simpa using Rd.of_own hown', fun x hx => ?_⟩
                rcases List.mem_append.1 hx with hx | hx
                · exact HXR.out _ _ hM9' HINV.out.ys x hx
                · simp only [List.mem_singleton] at hx
                  subst hx
                  exact (HX.out.2 _ HPX.out).mod0 hM9'
              have HZ8 := Lib.hid hZ8
              have HY8 := Lib.hid hY8
              have HM9' := Lib.hid hM9'
              have hlast : zs.map (·.l) = (ys ++ [(⟨pA, pn, pc, pl⟩ : Bs)]).map (·.l) := by rw [HZ.out, List.map_append]; rfl
              have HLA := Lib.hid hlast
              clear hlast hZ8 hY8 hM9' hmg hlt9 hlt8 hown'
              refine (same_any A8 A' k8 (ys.length + 1) c8 c' zs (ys ++ [⟨pA, pn, pc, pl⟩]) _ HZ8.out HY8.out (by omega) (by omega)).mono ?_
              rw [decide_eq_true HLA.out]
              rintro e w10 ⟨rfl, hm10⟩
              have HM10 := Lib.hid (HM9'.out.trans0 hm10)
              clear hm10
              go_wp2_with fail
              go_ret
              exact ⟨rfl, HM10.out⟩
      · have HA1 : Hid ((addB D' kk pl).1 = D') := by show _ = _; rw [add_big (by rw [HPL.out]; omega)]
        have HA2 : Hid ((addB D' kk pl).2 = 1) := by show _ = _; rw [add_big (by rw [HPL.out]; omega)]
        go_wp2_with (first
          | (go_at_call 8
             refine (add_wal F' d D' kk pA pn pc pl _ HD.out HO.out HR.out hpn).mono ?_
             rw [HA1.out, HA2.out]
             rintro e w5 ⟨rfl, F5, hd5, hm5, hF5⟩
             have HD5 := Lib.hid hd5
             have HM5 := Lib.hid hm5
             have HF5 := Lib.hid hF5
             have hsz5 := hm5.size
             clear hd5 hm5 hF5
             have hc5 : w5.cell? ⟨b, o + q, none⟩ = some (.slice pA pn pc) := HM5.out.cell hc (fun h => by have := (HFF.out _ h).1; simp only at this; omega)))
        go_ret
        have hbig : decide ((1048576 : Int) < (pn : Int)) = true := decide_eq_true (by omega)
        refine ⟨?_, HMOD.out.trans HM5.out fun g hg => .inr (HFF.out g hg).1⟩
        show Ending.returned (.bool (decide ((1048576 : Int) < (pn : Int)))) = _
        rw [hbig]
    · have HDk := Lib.hid HINV.out.disk
      have HOk := Lib.hid HINV.out.ok
      have HMk := Lib.hid HINV.out.mod
      have HFk := Lib.hid HINV.out.far
      have HOWNk := Lib.hid hown
      obtain ⟨ex, hone, hexy⟩ := HINV.out.one
      have HCE : Hid (CutEnd (nameW kk) D' (ys.map (·.l)) [] false) := ⟨HINV.out.off, ⟨ex, [], by rw [List.append_nil]; exact hone, List.nil_prefix, fun _ => rfl, fun h => by rw [hexy h]; rfl⟩, fun b hb => by
        obtain ⟨x, hx, rfl⟩ := List.mem_map.1 hb
        exact (HINV.out.ys x hx).2, fun h => by cases h⟩
      clear hown hone hexy
      by_cases hlt1 : q < n
      · have hq : q = 40 := by omega
        subst hq
        go_wp2_with fail
        refine (off_any F' d D' _ HDk.out).mono ?_
        rintro e wa ⟨rfl, rfl⟩
        rw [HCE.out.off]
        go_wp2_with fail
        refine (crash_any F' d D' B m k picks _ HDk.out HOk.out (HRP.out _ _ HMk.out (fun g hg => (HFk.out g hg).1)) hm).mono ?_
        rintro e w7 ⟨L, hL7, rfl, F7, hd7, hm7, hF7⟩
        have HL7 := Lib.hid hL7
        have HD7 := Lib.hid hd7
        have HM7 : Hid (Mod Non w w7) := HMk.out.trans hm7 fun g hg => .inr (HFk.out g hg).1
        have HOWN7 := Lib.hid (own_mod HOWNk.out hm7 (fun g hg h => (HFk.out g h).2 hg))
        clear hL7 hd7 hm7 hF7
        go_wp2_with fail
        refine (replay_any F7 d (crashD D' picks L) kk _ HD7.out (crashD_ok HOk.out picks L)).mono ?_
        rintro e w8 hp
        unfold RpPost at hp
        rw [if_pos (by omega)] at hp
        rcases cut_final HCE.out HL7.out picks with ⟨hnone, hsure⟩ | ⟨f, hf, hrep⟩
        · rw [hnone] at hp
          dsimp only at hp
          obtain ⟨rfl, hm8⟩ := hp
          have hz : ys.length = 0 := by simpa using congrArg List.length hsure
          have HM8 := Lib.hid (HM7.out.trans0 hm8)
          have hzb : ((ys.length : Int) == 0) = true := by rw [hz]; rfl
          clear hnone hsure hm8 hz
          go_wp2_with fail
          go_ret
          exact ⟨rfl, HM8.out⟩
        · rw [hf] at hp
          dsimp only at hp
          obtain ⟨A8, k8, c8, zs, rfl, hrow8, hzl, hm8⟩ := hp
          have HM8 := Lib.hid (HM7.out.trans0 hm8)
          have HOWN8 := Lib.hid (own_mod HOWN7.out hm8 (fun _ _ h => h))
          have hk8 := hrow8.nc
          have hc8 := hrow8.cm
          have HROW := Lib.hid hrow8
          have hS2 : RdS w8 Av ys.length ys := ⟨Rd.of_own HOWN8.out, HXR.out _ _ HM8.out HINV.out.ys⟩
          have HS2 := Lib.hid hS2
          clear hf hm8 hrow8 hS2
          rcases hrep with e1 | ⟨hft, e1⟩
          · rw [e1] at hzl
            have HZ := Lib.hid hzl
            clear hzl e1
            go_wp2_with fail
            refine (same_any A8 Av k8 ys.length c8 cv zs ys _ HROW.out.rds HS2.out (by omega) (by omega)).mono ?_
            rw [decide_eq_true HZ.out]
            rintro e w9 ⟨rfl, hm9⟩
            have HM9 := Lib.hid (HM8.out.trans0 hm9)
            clear hm9
            go_wp2_with fail
            go_ret
            exact ⟨rfl, HM9.out⟩
          · cases hft
      · obtain rfl : q = n := by omega
        go_wp2_with fail
        refine (off_any F' d D' _ HDk.out).mono ?_
        rintro e wa ⟨rfl, rfl⟩
        rw [HCE.out.off]
        go_wp2_with fail
        refine (crash_any F' d D' B m k picks _ HDk.out HOk.out (HRP.out _ _ HMk.out (fun g hg => (HFk.out g hg).1)) hm).mono ?_
        rintro e w7 ⟨L, hL7, rfl, F7, hd7, hm7, hF7⟩
        have HL7 := Lib.hid hL7
        have HD7 := Lib.hid hd7
        have HM7 : Hid (Mod Non w w7) := HMk.out.trans hm7 fun g hg => .inr (HFk.out g hg).1
        have HOWN7 := Lib.hid (own_mod HOWNk.out hm7 (fun g hg h => (HFk.out g h).2 hg))
        clear hL7 hd7 hm7 hF7
        go_wp2_with fail
        refine (replay_any F7 d (crashD D' picks L) kk _ HD7.out (crashD_ok HOk.out picks L)).mono ?_
        rintro e w8 hp
        unfold RpPost at hp
        rw [if_pos (by omega)] at hp
        rcases cut_final HCE.out HL7.out picks with ⟨hnone, hsure⟩ | ⟨f, hf, hrep⟩
        · rw [hnone] at hp
          dsimp only at hp
          obtain ⟨rfl, hm8⟩ := hp
          have hz : ys.length = 0 := by simpa using congrArg List.length hsure
          have HM8 := Lib.hid (HM7.out.trans0 hm8)
          have hzb : ((ys.length : Int) == 0) = true := by rw [hz]; rfl
          clear hnone hsure hm8 hz
          go_wp2_with fail
          go_ret
          exact ⟨rfl, HM8.out⟩
        · rw [hf] at hp
          dsimp only at hp
          obtain ⟨A8, k8, c8, zs, rfl, hrow8, hzl, hm8⟩ := hp
          have HM8 := Lib.hid (HM7.out.trans0 hm8)
          have HOWN8 := Lib.hid (own_mod HOWN7.out hm8 (fun _ _ h => h))
          have hk8 := hrow8.nc
          have hc8 := hrow8.cm
          have HROW := Lib.hid hrow8
          have hS2 : RdS w8 Av ys.length ys := ⟨Rd.of_own HOWN8.out, HXR.out _ _ HM8.out HINV.out.ys⟩
          have HS2 := Lib.hid hS2
          clear hf hm8 hrow8 hS2
          rcases hrep with e1 | ⟨hft, e1⟩
          · rw [e1] at hzl
            have HZ := Lib.hid hzl
            clear hzl e1
            go_wp2_with fail
            refine (same_any A8 Av k8 ys.length c8 cv zs ys _ HROW.out.rds HS2.out (by omega) (by omega)).mono ?_
            rw [decide_eq_true HZ.out]
            rintro e w9 ⟨rfl, hm9⟩
            have HM9 := Lib.hid (HM8.out.trans0 hm9)
            clear hm9
            go_wp2_with fail
            go_ret
            exact ⟨rfl, HM9.out⟩
          · cases hft

end Go.Proofs.YtgdamcimpgapgaaDoor
