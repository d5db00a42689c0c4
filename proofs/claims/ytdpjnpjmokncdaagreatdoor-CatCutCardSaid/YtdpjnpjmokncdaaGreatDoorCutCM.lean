/- sawyerlaw11.CatCut: the walk. -/
import Derived.Test.YtdpjnpjmokncdaaGreatDoorTwoM
import Derived.Test.YtdpjnpjmokncdaaGreatDoorB39
import Derived.Deep.RegionHeld3
namespace Go.Proofs.YtdpjnpjmokncdaaGreatDoor
open Go.RowKit

theorem and_maskC (n : Int) (j : Nat) (hj : j ≤ 62) : bits .and .i64 n ((2 ^ j - 1 : Nat) : Int) = n % ((2 ^ j : Nat) : Int) := by
  have hp : 2 ^ j ≤ 2 ^ 62 := Nat.pow_le_pow_right (by omega) hj
  have hpos : 0 < 2 ^ j := Nat.two_pow_pos j
  have hm : (BitVec.ofInt 64 ((2 ^ j - 1 : Nat) : Int)).toNat = 2 ^ j - 1 := by
    rw [BitVec.ofInt_natCast, BitVec.toNat_ofNat, Nat.mod_eq_of_lt (by omega)]
  have key : (BitVec.ofInt 64 n &&& BitVec.ofInt 64 ((2 ^ j - 1 : Nat) : Int)).toNat = (n % ((2 ^ 64 : Nat) : Int)).toNat % 2 ^ j := by
    rw [BitVec.toNat_and, BitVec.toNat_ofInt, hm, Nat.and_two_pow_sub_one_eq_mod]
  show IntKind.i64.wrap ((BitVec.ofInt 64 n &&& BitVec.ofInt 64 ((2 ^ j - 1 : Nat) : Int)).toNat : Nat) = _
  rw [key]
  have hlt : (n % ((2 ^ 64 : Nat) : Int)).toNat % 2 ^ j < 2 ^ j := Nat.mod_lt _ hpos
  rw [IntWalk.i64_in _ (by constructor <;> omega)]
  have h0 : 0 ≤ n % ((2 ^ 64 : Nat) : Int) := Int.emod_nonneg _ (by decide)
  have hd : ((2 ^ j : Nat) : Int) ∣ ((2 ^ 64 : Nat) : Int) := Int.natCast_dvd_natCast.2 (Nat.pow_dvd_pow 2 (by omega))
  rw [Int.natCast_emod, Int.toNat_of_nonneg h0, Int.emod_emod_of_dvd _ hd]
theorem and31 (n : Int) : bits .and .i64 n 31 = n % 32 := and_maskC n 5 (by omega)

theorem cutD_ok {D : Dk} (ok : DkOk D) {ops : Int} (h : ops ≤ 9223372036854775807) : DkOk (cutD D ops) := by
  unfold cutD
  split
  · exact ok
  · rename_i hn
    rw [not_or] at hn
    exact ⟨ok.n0, ok.n1, ok.u0, ok.u1, by simp only; omega, h, ok.us, ok.sf, ok.nm, ok.nd⟩
theorem cutD_files (D : Dk) (ops : Int) : (cutD D ops).files = D.files := by unfold cutD; split <;> rfl
theorem loadV_check {D : Dk} {v : Vs} (h : loadV D = some v) : checkV v = true := by
  unfold loadV at h
  split at h
  · cases h; decide
  · split at h
    · cases h
    · split at h
      · split at h
        · cases h
        · split at h
          · cases h
          · rename_i hd
            split at h
            · cases h; exact (decV_some hd).1
            · cases h
      · cases h

/-- one version or the other. -/
theorem cut_plain {D : Dk} (ok : DkOk D) {v u : Vs} (hc : Counts D.files v) (hn : ∀ k, k ≠ curN → k ≠ foldN manP v.gen → findF D.files k = none) (hne : v.gen ≠ u.gen) :
    ∃ x, (x = v ∨ x = u) ∧ ((saveD D u).2 = 0 → x = u) ∧ Counts (saveD D u).1.files x ∧ ∀ k, (findF (saveD D u).1.files k).isSome = true → k = curN ∨ k = foldN manP x.gen ∨ cleanSo x k = true := by
  by_cases hcu : checkV u = true
  · have hgu := checkV_gen hcu
    have hgv := checkV_gen hc.ok
    have hmm : foldN manP v.gen ≠ foldN manP u.gen := fun e => hne (foldN_inj hgv e)
    rcases saveD_went ok u with ⟨hb, hk⟩ | ⟨c, hk, s, _⟩
    · refine ⟨v, .inl rfl, fun h => absurd h hb, ⟨hc.ok, ?_, ?_⟩, fun k hs => ?_⟩
      · rw [hk _ (fun e => shad_ne_cur e.symm) (fun e => man_ne_cur hgu e.symm)]; exact hc.cur
      · rw [hk _ (man_ne_shad hgv) hmm]; exact hc.man
      · by_cases k1 : k = curN
        · exact .inl k1
        by_cases k2 : k = foldN manP v.gen
        · exact .inr (.inl k2)
        by_cases k3 : k = shadN
        · exact .inr (.inr (by rw [k3]; exact cleanSo_shad v))
        by_cases k4 : k = foldN manP u.gen
        · exact .inr (.inr (by rw [k4]; exact cleanSo_man hgu (fun e => hne e.symm)))
        rw [hk k k3 k4, hn k k1 k2] at hs
        cases hs
    · refine ⟨u, .inr rfl, fun _ => rfl, c, fun k hs => ?_⟩
      by_cases k1 : k = curN
      · exact .inl k1
      by_cases k2 : k = foldN manP u.gen
      · exact .inr (.inl k2)
      by_cases k3 : k = foldN manP v.gen
      · exact .inr (.inr (by rw [k3]; exact cleanSo_man hgv hne))
      rcases hk k k1 k2 with e | e
      · rw [e] at hs; cases hs
      · rw [e, hn k k1 k3] at hs; cases hs
  · rw [saveD_bad hcu]
    refine ⟨v, .inl rfl, fun h => (by cases h), hc, fun k hs => ?_⟩
    by_cases k1 : k = curN
    · exact .inl k1
    by_cases k2 : k = foldN manP v.gen
    · exact .inr (.inl k2)
    rw [hn k k1 k2] at hs
    cases hs
theorem cut_clean {D : Dk} (c : Calm D) (ok : DkOk D) {x : Vs} (h : Counts D.files x) (hk : ∀ k, (findF D.files k).isSome = true → k = curN ∨ k = foldN manP x.gen ∨ cleanSo x k = true) :
    (cleanD D x).2 = 0 ∧ loadV (cleanD D x).1 = some x ∧ (cleanD D x).1.files.length = 2 := by
  obtain ⟨z, _, hf⟩ := cleanD_calm c ok h.ok
  have hc := h.clean c ok
  refine ⟨z, hc.load, two_files (cleanD_ok ok x) (fun e => man_ne_cur (checkV_gen h.ok) e.symm) (by rw [hc.cur]; rfl) (by rw [hc.man]; rfl) fun k k1 k2 => ?_⟩
  rw [hf]
  split
  · rfl
  · rename_i hs
    cases hfk : findF D.files k with
    | none => rfl
    | some f =>
      rcases hk k (by rw [hfk]; rfl) with e | e | e
      · exact absurd e k1
      · exact absurd e k2
      · exact absurd e hs

/-- Load's answer, whichever. -/
def LuPost (D : Dk) (w : World) (e : Ending) (w' : World) : Prop :=
  ∃ (X : Vw) (f : Int), e = .returned (.tuple #[X.val, .int .i64 f]) ∧ VwOk w' X ∧ (∀ (S : Nat → Prop) w'', (∀ i, S i → i < w.heap.size) → Mod S w' w'' → VwOk w'' X) ∧ X.ms.length ≤ 4096 ∧ Mod Non w w' ∧
    ∀ v, loadV D = some v → X.v = v ∧ f = 0
theorem loadU_any (F : Nat → Prop) (d : Nat) (D : Dk) (w : World) (h : DiskIs w F d D) (ok : DkOk D) :
    Calls Tryz.prog 13 #[.pointer (some ⟨d, 0, none⟩)] w (LuPost D w) := by
  refine (loadC_any F d D w h ok).mono fun e w' hp => ?_
  unfold LoPost at hp
  cases hl : loadV D with
  | none =>
    rw [hl] at hp
    obtain ⟨rfl, hm⟩ := hp
    exact ⟨⟨0, 0, 0, 0, none, 0, []⟩, 2, rfl, zeroVw _, fun _ w'' _ _ => zeroVw w'', Nat.zero_le _, hm, fun v hv => by rw [hl] at hv; cases hv⟩
  | some v =>
    rw [hl] at hp
    obtain ⟨x, hxv, rfl, hk, hst, hm⟩ := hp
    have hck := loadV_check hl
    have h2 := (encV_len hck).2
    have hlen : x.ms.length ≤ 4096 := by
      rw [← hxv] at h2
      simpa [Vw.v] using h2
    exact ⟨x, 0, rfl, hk, hst, hlen, hm, fun v' hv' => by rw [hl] at hv'; cases hv'; exact ⟨hxv, rfl⟩⟩

set_option maxRecDepth 100000 in
set_option maxHeartbeats 8000000 in
theorem cutC_walk (x0 x1 : Vw) (cut : Int) (PA : Option Addr) (pn pc : Nat) (picks : List Int) (w : World) (hL : Lay w) (hE : Errs w) (ho0 : VwOk w x0) (ho1 : VwOk w x1)
    (hp : Rd w PA pn (picks.map (Value.int .i64))) (hpn : pn ≤ 9223372036854775807) :
    Calls Tryz.prog 5 #[x0.val, x1.val, .int .i64 cut, .slice PA pn pc] w fun e w' => e = .returned (.bool true) ∧ Mod Non w w' := by
  have HO0 := Lib.hid ho0
  have HO1 := Lib.hid ho1
  have HL := Lib.hid hL
  have HE := Lib.hid hE
  have HPK := Lib.hid hp
  have hcut : bits .and .i64 cut 31 = cut % 32 := and31 cut
  have hq0 : 0 ≤ cut % 32 := by omega
  have hq1 : cut % 32 ≤ 31 := by omega
  obtain ⟨ops, hops⟩ : ∃ ops, cut % 32 = ops := ⟨_, rfl⟩
  rw [hops] at hcut hq0 hq1
  clear hops
  obtain ⟨X0, hX0⟩ : ∃ X, x0 = X := ⟨_, rfl⟩
  obtain ⟨X1, hX1⟩ : ∃ X, x1 = X := ⟨_, rfl⟩
  rw [hX0] at HO0
  rw [hX1] at HO1
  obtain ⟨v0, v1, v2, v3, VA, vc, vms⟩ := x0
  obtain ⟨u0, u1, u2, u3, UA, uc, ums⟩ := x1
  obtain ⟨vq, hvq⟩ : ∃ q, vms.length = q := ⟨_, rfl⟩
  obtain ⟨uq, huq⟩ : ∃ q, ums.length = q := ⟨_, rfl⟩
  have hV0 : X0.val = .agg #[.int .i64 v0, .int .i64 v1, .int .i64 v2, .int .i64 v3, .slice VA vq vc] := by rw [← hX0]; unfold Vw.val; simp only; rw [hvq]
  have hU0 : X1.val = .agg #[.int .i64 u0, .int .i64 u1, .int .i64 u2, .int .i64 u3, .slice UA uq uc] := by rw [← hX1]; unfold Vw.val; simp only; rw [huq]
  have hVq : X0.ms.length = vq := by rw [← hX0]; exact hvq
  have hUq : X1.ms.length = uq := by rw [← hX1]; exact huq
  have hVg : X0.v.gen = v0 := by rw [← hX0]; rfl
  have hUg : X1.v.gen = u0 := by rw [← hX1]; rfl
  have HV := Lib.hid hV0
  have HU := Lib.hid hU0
  have HVQ := Lib.hid hVq
  have HUQ := Lib.hid hUq
  have HVG := Lib.hid hVg
  have HUG := Lib.hid hUg
  unfold Vw.val
  simp only
  rw [hvq, huq]
  have hbv : ∀ W, Mod Non ((w.alloc (.cells #[.int .i64 v0, .int .i64 v1, .int .i64 v2, .int .i64 v3, .slice VA vq vc] 30)).alloc (.cells #[.int .i64 u0, .int .i64 u1, .int .i64 u2, .int .i64 u3, .slice UA uq uc] 30)) W → (W.cell? ⟨w.heap.size, 0, none⟩ = some (.int .i64 v0) ∧ W.cell? ⟨w.heap.size, 1, none⟩ = some (.int .i64 v1) ∧ W.cell? ⟨w.heap.size, 2, none⟩ = some (.int .i64 v2) ∧ W.cell? ⟨w.heap.size, 3, none⟩ = some (.int .i64 v3) ∧ W.cell? ⟨w.heap.size, 4, none⟩ = some (.slice VA vq vc)) ∧ (W.cell? ⟨w.heap.size + 1, 0, none⟩ = some (.int .i64 u0) ∧ W.cell? ⟨w.heap.size + 1, 1, none⟩ = some (.int .i64 u1) ∧ W.cell? ⟨w.heap.size + 1, 2, none⟩ = some (.int .i64 u2) ∧ W.cell? ⟨w.heap.size + 1, 3, none⟩ = some (.int .i64 u3) ∧ W.cell? ⟨w.heap.size + 1, 4, none⟩ = some (.slice UA uq uc)) := fun W hW => by
    have h1 : Blk W w.heap.size 30 #[.int .i64 v0, .int .i64 v1, .int .i64 v2, .int .i64 v3, .slice VA vq vc] := ((Blk.new w _ _).alloc _).mod hW fun h => h
    have h2 : Blk W (w.heap.size + 1) 30 #[.int .i64 u0, .int .i64 u1, .int .i64 u2, .int .i64 u3, .slice UA uq uc] := by
      have := Blk.new (w.alloc (.cells #[.int .i64 v0, .int .i64 v1, .int .i64 v2, .int .i64 v3, .slice VA vq vc] 30)) 30 #[.int .i64 u0, .int .i64 u1, .int .i64 u2, .int .i64 u3, .slice UA uq uc]
      rw [World.size_alloc] at this
      exact this.mod hW fun h => h
    exact ⟨⟨h1.cell 0, h1.cell 1, h1.cell 2, h1.cell 3, h1.cell 4⟩, ⟨h2.cell 0, h2.cell 1, h2.cell 2, h2.cell 3, h2.cell 4⟩⟩
  have HBV := Lib.hid hbv
  have hms : Mod Non w ((w.alloc (.cells #[.int .i64 v0, .int .i64 v1, .int .i64 v2, .int .i64 v3, .slice VA vq vc] 30)).alloc (.cells #[.int .i64 u0, .int .i64 u1, .int .i64 u2, .int .i64 u3, .slice UA uq uc] 30)) := ((Mod.refl _ _).alloc _).alloc _
  have hss : ((w.alloc (.cells #[.int .i64 v0, .int .i64 v1, .int .i64 v2, .int .i64 v3, .slice VA vq vc] 30)).alloc (.cells #[.int .i64 u0, .int .i64 u1, .int .i64 u2, .int .i64 u3, .slice UA uq uc] 30)).heap.size = w.heap.size + 2 := by simp only [World.size_alloc]
  have HMS := Lib.hid hms
  have HSS := Lib.hid hss
  clear ho0 ho1 hL hE hp hX0 hX1 hvq huq hV0 hU0 hVq hUq hVg hUg hbv hms hss
  obtain ⟨W0, hW0⟩ : ∃ W0, ((w.alloc (.cells #[.int .i64 v0, .int .i64 v1, .int .i64 v2, .int .i64 v3, .slice VA vq vc] 30)).alloc (.cells #[.int .i64 u0, .int .i64 u1, .int .i64 u2, .int .i64 u3, .slice UA uq uc] 30)) = W0 := ⟨_, rfl⟩
  have HW0 := Lib.hid hW0
  rw [hW0] at HBV HMS HSS
  clear hW0
  go_enter Tryz.func5, Tryz.ntmps5
  go_wp2_with fail
  rw [HW0.out]
  refine (awakeC_any W0 (HL.out.mod0 HMS.out) (HE.out.mod0 HMS.out)).mono ?_
  rintro e w1 ⟨rfl, hm1⟩
  have HM1 := Lib.hid hm1
  clear hm1
  go_wp2_with fail
  refine (new_yes 1099511627776 _ ((HL.out.mod0 HMS.out).mod0 HM1.out) (by omega) (by omega)).mono ?_
  rintro e w2 ⟨d, F, rfl, hd2, hb2, hF2⟩
  have LW2 : Hid (Lw W0 d F (newD 1099511627776) w2) := ⟨hd2, newD_ok (by omega) (by omega), HM1.out.trans0 (Mod.of_below hb2), fun k hk => Nat.le_trans HM1.out.size (hF2 k hk)⟩
  obtain ⟨⟨a0, a1, a2, a3, a4⟩, b0, b1, b2, b3, b4⟩ := HBV.out w2 LW2.out.mod
  clear hd2 hb2 hF2
  by_cases hv100 : 100 < vq
  · have hd : decide (100 < (vq : Int)) = true := decide_eq_true (by omega)
    go_wp2_with fail
    go_ret
    exact ⟨rfl, HMS.out.trans0 LW2.out.mod⟩
  by_cases hu100 : 100 < uq
  · have hd : decide (100 < (vq : Int)) = false := decide_eq_false (by omega)
    have hd2 : decide (100 < (uq : Int)) = true := decide_eq_true (by omega)
    go_wp2_with fail
    go_ret
    exact ⟨rfl, HMS.out.trans0 LW2.out.mod⟩
  have hd : decide (100 < (vq : Int)) = false := decide_eq_false (by omega)
  have hd2 : decide (100 < (uq : Int)) = false := decide_eq_false (by omega)
  have hmv : ∀ W, Mod Non W0 W → Calls Tryz.prog 12 #[.agg #[.int .i64 v0, .int .i64 v1, .int .i64 v2, .int .i64 v3, .slice VA vq vc]] W fun e w' => ∃ Z : Vw, Z.v = X0.v ∧ e = .returned Z.val ∧ VwOk w' Z ∧ Mod Non W w' := fun W hW => by
    have := mine_any X0 W ((HO0.out.mod0 HMS.out).mod0 hW) (by rw [HVQ.out]; omega)
    rw [HV.out] at this
    exact this.mono fun e w' ⟨A', c', he, hk', _, hm'⟩ => ⟨⟨X0.gen, X0.next, X0.log, X0.seq, A', c', X0.ms⟩, rfl, he, hk', hm'⟩
  have hmu : ∀ W, Mod Non W0 W → Calls Tryz.prog 12 #[.agg #[.int .i64 u0, .int .i64 u1, .int .i64 u2, .int .i64 u3, .slice UA uq uc]] W fun e w' => ∃ Z : Vw, Z.v = X1.v ∧ e = .returned Z.val ∧ VwOk w' Z ∧ Mod Non W w' := fun W hW => by
    have := mine_any X1 W ((HO1.out.mod0 HMS.out).mod0 hW) (by rw [HUQ.out]; omega)
    rw [HU.out] at this
    exact this.mono fun e w' ⟨A', c', he, hk', _, hm'⟩ => ⟨⟨X1.gen, X1.next, X1.log, X1.seq, A', c', X1.ms⟩, rfl, he, hk', hm'⟩
  have HMV := Lib.hid hmv
  have HMU := Lib.hid hmu
  clear hmv hmu hv100 hu100
  go_wp2_with fail
  refine (HMV.out w2 LW2.out.mod).mono ?_
  rintro e w3 ⟨Z3, hZ3, rfl, hk3, hm3⟩
  have LW3 := Lib.hid (LW2.out.mod0 hm3)
  have HZ3 := Lib.hid hZ3
  have HK3 := Lib.hid hk3
  clear hm3 hZ3 hk3 a0 a1 a2 a3 a4 b0 b1 b2 b3 b4
  obtain ⟨⟨D4, E4⟩, hP4⟩ : ∃ P, saveD (newD 1099511627776) X0.v = P := ⟨_, rfl⟩
  have HP4 := Lib.hid hP4
  have hsv := save_any F d (newD 1099511627776) Z3 w3 LW3.out.disk LW3.out.ok HK3.out (LW3.out.errs (HE.out.mod0 HMS.out))
  rw [HZ3.out, HP4.out] at hsv
  have hok4 : DkOk D4 := by have := saveD_ok LW3.out.ok X0.v; rwa [HP4.out] at this
  have HOK4 := Lib.hid hok4
  have HSV := Lib.hid hsv
  clear hsv hP4 hok4
  go_wp2_with fail
  refine HSV.out.mono ?_
  intro e w4 hp4
  obtain ⟨rfl, F4, hl4, _, _⟩ := LW3.out.step hp4 HOK4.out
  have LW4 := Lib.hid hl4
  simp only
  clear hp4 hl4
  by_cases hE4n : E4 ≠ 0
  · have hE4 : ¬ E4 = 0 := hE4n
    have hEb : (E4 == 0) = false := by simp [hE4]
    have hEc : (E4 != 0) = true := by simp [hE4]
    clear hE4 hE4n
    go_wp2_with fail
    go_ret
    exact ⟨rfl, HMS.out.trans0 LW4.out.mod⟩
  have hE4 : E4 = 0 := Decidable.not_not.1 hE4n
  clear hE4n
  subst hE4
  have hcnt : Counts D4.files X0.v ∧ ∀ k, k ≠ curN → k ≠ foldN manP X0.v.gen → findF D4.files k = none := by
    have := saveD_went (D := newD 1099511627776) (newD_ok (by omega) (by omega)) X0.v
    rw [HP4.out] at this
    rcases this with ⟨hb, _⟩ | ⟨c, hk, _, _⟩
    · exact absurd rfl hb
    · refine ⟨c, fun k k1 k2 => ?_⟩
      rcases hk k k1 k2 with e | e
      · exact e
      · rw [e]; rfl
  have HCNT := Lib.hid hcnt
  clear hcnt
  go_wp2_with fail
  try rw [hcut]
  refine (cut_any F4 d D4 ops w4 LW4.out.disk).mono ?_
  intro e w5 hp5
  obtain ⟨rfl, F5, hl5, _, _⟩ := LW4.out.step hp5 (cutD_ok LW4.out.ok (by omega))
  have LW5 := Lib.hid hl5
  have HF5 : Hid ((cutD D4 ops).files = D4.files) := cutD_files D4 ops
  obtain ⟨D5, hD5⟩ : ∃ D5, cutD D4 ops = D5 := ⟨_, rfl⟩
  rw [hD5] at LW5 HF5
  obtain ⟨⟨a0, a1, a2, a3, a4⟩, b0, b1, b2, b3, b4⟩ := HBV.out w5 LW5.out.mod
  clear hp5 hl5 hD5
  go_wp2_with fail
  refine (HMU.out w5 LW5.out.mod).mono ?_
  rintro e w6 ⟨Z6, hZ6, rfl, hk6, hm6⟩
  have LW6 := Lib.hid (LW5.out.mod0 hm6)
  have HZ6 := Lib.hid hZ6
  have HK6 := Lib.hid hk6
  clear hm6 hZ6 hk6 a0 a1 a2 a3 a4 b0 b1 b2 b3 b4
  obtain ⟨⟨D7, E7⟩, hP7⟩ : ∃ P, saveD D5 X1.v = P := ⟨_, rfl⟩
  have HP7 := Lib.hid hP7
  have hsv := save_any F5 d D5 Z6 w6 LW6.out.disk LW6.out.ok HK6.out (LW6.out.errs (HE.out.mod0 HMS.out))
  rw [HZ6.out, HP7.out] at hsv
  have hok7 : DkOk D7 := by have := saveD_ok LW6.out.ok X1.v; rwa [HP7.out] at this
  have HOK7 := Lib.hid hok7
  have HSV7 := Lib.hid hsv
  clear hsv hP7 hok7
  go_wp2_with fail
  refine HSV7.out.mono ?_
  intro e w7 hp7
  obtain ⟨rfl, F7, hl7, _, _⟩ := LW6.out.step hp7 HOK7.out
  have LW7 := Lib.hid hl7
  simp only
  clear hp7 hl7
  go_wp2_with fail
  have hpk7 : RdO w7 F7 PA pn (picks.map (Value.int .i64)) := ⟨HPK.out.mod0 (HMS.out.trans0 LW7.out.mod), fun hn b hb hf => by
    obtain ⟨b', hb', hl⟩ := HPK.out.lt hn
    rw [hb] at hb'
    cases hb'
    have := LW7.out.far b hf
    have := HMS.out.size
    omega⟩
  refine (crash_any F7 d D7 PA pn pc picks w7 LW7.out.disk LW7.out.ok hpk7 hpn).mono ?_
  rintro e w8 ⟨L8, hL8, hp8⟩
  obtain ⟨rfl, F8, hl8, _, _⟩ := LW7.out.step hp8 (crashD_ok LW7.out.ok picks L8)
  have LW8 := Lib.hid hl8
  have HPL : Hid (X0.v.gen ≠ X1.v.gen → ∃ x, (x = X0.v ∨ x = X1.v) ∧ (E7 = 0 → x = X1.v) ∧ Counts (crashD D7 picks L8).files x ∧ ∀ k, (findF (crashD D7 picks L8).files k).isSome = true → k = curN ∨ k = foldN manP x.gen ∨ cleanSo x k = true) := fun hne => by
    have h5 := cut_plain (u := X1.v) LW6.out.ok (v := X0.v) (by rw [HF5.out]; exact HCNT.out.1) (by rw [HF5.out]; exact HCNT.out.2) hne
    rw [HP7.out] at h5
    obtain ⟨x, hx1, hx2, hx3, hx4⟩ := h5
    refine ⟨x, hx1, hx2, hx3.crash picks L8, fun k hk => ?_⟩
    rw [isSome_names (crashD_names D7 picks L8) k] at hk
    exact hx4 k hk
  have HCA8 := Lib.hid (crashD_calm D7 picks L8)
  obtain ⟨D8, hD8⟩ : ∃ D8, crashD D7 picks L8 = D8 := ⟨_, rfl⟩
  rw [hD8] at LW8 HPL HCA8
  clear hp8 hl8 hL8 hD8 hpk7
  go_wp2_with fail
  refine (loadU_any F8 d D8 w8 LW8.out.disk LW8.out.ok).mono ?_
  rintro e w9 ⟨x, f, rfl, hxk, hxst, hxl, hm9, hxv⟩
  obtain ⟨X, hX⟩ : ∃ X, x = X := ⟨_, rfl⟩
  rw [hX] at hxk hxst hxl hxv
  have HXV := Lib.hid hxv
  have HXK := Lib.hid hxk
  have HXST := Lib.hid hxst
  have LW9 := Lib.hid (LW8.out.mod0 hm9)
  have hsz89 : w8.heap.size ≤ w9.heap.size := hm9.size
  obtain ⟨xg, xn, xl, xs, xA, xc, xms⟩ := x
  obtain ⟨xk, hxkk⟩ : ∃ xk, xms.length = xk := ⟨_, rfl⟩
  have hXval : X.val = .agg #[.int .i64 xg, .int .i64 xn, .int .i64 xl, .int .i64 xs, .slice xA xk xc] := by rw [← hX]; unfold Vw.val; simp only; rw [hxkk]
  have hX' : X = ⟨xg, xn, xl, xs, xA, xc, xms⟩ := hX.symm
  have HXX := Lib.hid hX'
  have HXE := Lib.hid hXval
  have HXKK := Lib.hid hxkk
  have hth : ∀ W, Mod Non w9 W → Calls Tryz.prog 15 #[.agg #[.int .i64 xg, .int .i64 xn, .int .i64 xl, .int .i64 xs, .slice xA xk xc]] W fun e w' => ∃ Z : Vw, Z.v = X.v ∧ e = .returned Z.val ∧ VwOk w' Z ∧ Mod Non W w' := fun W hW => by
    have := theirs_any X W (HXK.out.mod0 hW) (by omega)
    rw [HXE.out] at this
    exact this.mono fun e w' ⟨A', c', he, hk', _, hm'⟩ => ⟨⟨X.gen, X.next, X.log, X.seq, A', c', X.ms⟩, rfl, he, hk', hm'⟩
  have HTH := Lib.hid hth
  unfold Vw.val
  simp only
  rw [hxkk]
  obtain ⟨w10, hw10⟩ : ∃ w10, w9.alloc (.cells #[.int .i64 xg, .int .i64 xn, .int .i64 xl, .int .i64 xs, .slice xA xk xc] 34) = w10 := ⟨_, rfl⟩
  have hm10 : Mod Non w9 w10 := by rw [← hw10]; exact (Mod.refl _ _).alloc _
  have HBX : Hid (Blk w10 w9.heap.size 34 #[.int .i64 xg, .int .i64 xn, .int .i64 xl, .int .i64 xs, .slice xA xk xc]) := by { show Blk _ _ _ _; rw [← hw10]; exact Blk.new _ _ _ }
  have HM10 := Lib.hid hm10
  have LW10 := Lib.hid (LW9.out.mod0 hm10)
  have HW10 := Lib.hid hw10
  have hB : ∀ W, Mod Non w10 W → W.cell? ⟨w9.heap.size, 0, none⟩ = some (.int .i64 xg) ∧ W.cell? ⟨w9.heap.size, 1, none⟩ = some (.int .i64 xn) ∧ W.cell? ⟨w9.heap.size, 2, none⟩ = some (.int .i64 xl) ∧ W.cell? ⟨w9.heap.size, 3, none⟩ = some (.int .i64 xs) ∧ W.cell? ⟨w9.heap.size, 4, none⟩ = some (.slice xA xk xc) := fun W hW =>
    ⟨(HBX.out.mod hW fun h => h).cell 0, (HBX.out.mod hW fun h => h).cell 1, (HBX.out.mod hW fun h => h).cell 2, (HBX.out.mod hW fun h => h).cell 3, (HBX.out.mod hW fun h => h).cell 4⟩
  have HBB := Lib.hid hB
  have hsz9 : w.heap.size + 1 < w9.heap.size := by have h1 := LW9.out.mod.size; have h2 := HSS.out; omega
  have hyc : ∀ W Z, Mod Non W0 W → VwOk W Z → Calls Tryz.prog 14 #[Z.val, .agg #[.int .i64 v0, .int .i64 v1, .int .i64 v2, .int .i64 v3, .slice VA vq vc]] W fun e w' => e = .returned (.bool (decide (Z.v = X0.v))) ∧ Mod Non W w' := fun W Z hW hZ => by
    have := sameVs_any Z X0 W hZ ((HO0.out.mod0 HMS.out).mod0 hW)
    rw [HV.out] at this
    exact this
  have hyu : ∀ W Z, Mod Non W0 W → VwOk W Z → Calls Tryz.prog 14 #[Z.val, .agg #[.int .i64 u0, .int .i64 u1, .int .i64 u2, .int .i64 u3, .slice UA uq uc]] W fun e w' => e = .returned (.bool (decide (Z.v = X1.v))) ∧ Mod Non W w' := fun W Z hW hZ => by
    have := sameVs_any Z X1 W hZ ((HO1.out.mod0 HMS.out).mod0 hW)
    rw [HU.out] at this
    exact this
  have HYC := Lib.hid hyc
  have HYU := Lib.hid hyu
  obtain ⟨old, hold⟩ : ∃ old, decide (X.v = X0.v) = old := ⟨_, rfl⟩
  obtain ⟨made, hmade⟩ : ∃ made, decide (X.v = X1.v) = made := ⟨_, rfl⟩
  have HOLD := Lib.hid hold
  have HMADE := Lib.hid hmade
  obtain ⟨⟨a0, a1, a2, a3, a4⟩, -⟩ := HBV.out w10 LW10.out.mod
  obtain ⟨z0, z1, z2, z3, z4⟩ := hB w10 (Mod.refl _ _)
  clear hm9 hxv hxk hxst hX hXval hth hxkk hm10 hw10 hB hyc hyu hold hmade hX' hxl
  go_wp2_with fail
  rw [HW10.out]
  go_region_held3 (fun W => (W.cell? ⟨w9.heap.size, 0, none⟩ = some (.int .i64 xg) ∧ W.cell? ⟨w9.heap.size, 1, none⟩ = some (.int .i64 xn) ∧ W.cell? ⟨w9.heap.size, 2, none⟩ = some (.int .i64 xl) ∧ W.cell? ⟨w9.heap.size, 3, none⟩ = some (.int .i64 xs) ∧ W.cell? ⟨w9.heap.size, 4, none⟩ = some (.slice xA xk xc)) ∧ W.cell? ⟨w.heap.size, 0, none⟩ = some (.int .i64 v0) ∧ W.cell? ⟨w.heap.size, 1, none⟩ = some (.int .i64 v1) ∧ W.cell? ⟨w.heap.size, 2, none⟩ = some (.int .i64 v2) ∧ W.cell? ⟨w.heap.size, 3, none⟩ = some (.int .i64 v3) ∧ W.cell? ⟨w.heap.size, 4, none⟩ = some (.slice VA vq vc))
    (first | go_keep)
    (first
      | (go_at_call 15
         refine (HTH.out _ (HM10.out.drew)).mono ?_
         rintro e w11 ⟨Z11, hZV, rfl, hZk, hm11⟩
         have HZV := Lib.hid hZV
         have HZK := Lib.hid hZk
         have HM11 := Lib.hid (((Mod.refl Non w10).drew).trans0 hm11)
         have LW11 := Lib.hid (LW10.out.mod0 HM11.out)
         obtain ⟨⟨a01, a11, a21, a31, a41⟩, -⟩ := HBV.out w11 LW11.out.mod
         obtain ⟨z01, z11, z21, z31, z41⟩ := HBB.out w11 HM11.out
         clear hZV hZk hm11)
      | (go_at_call 14
         refine (HYC.out w11 Z11 LW11.out.mod HZK.out).mono ?_
         rw [HZV.out, HOLD.out]
         rintro e w12 ⟨rfl, hm12⟩
         have HM12 := Lib.hid (HM11.out.trans0 hm12)
         have LW12 := Lib.hid (LW11.out.mod0 hm12)
         obtain ⟨⟨a02, a12, a22, a32, a42⟩, b02, b12, b22, b32, b42⟩ := HBV.out w12 LW12.out.mod
         obtain ⟨z02, z12, z22, z32, z42⟩ := HBB.out w12 HM12.out
         clear hm12)
      | fail)
  go_wp2_with fail
  go_region_held3 (fun W => (W.cell? ⟨w9.heap.size, 0, none⟩ = some (.int .i64 xg) ∧ W.cell? ⟨w9.heap.size, 1, none⟩ = some (.int .i64 xn) ∧ W.cell? ⟨w9.heap.size, 2, none⟩ = some (.int .i64 xl) ∧ W.cell? ⟨w9.heap.size, 3, none⟩ = some (.int .i64 xs) ∧ W.cell? ⟨w9.heap.size, 4, none⟩ = some (.slice xA xk xc)) ∧ W.cell? ⟨w.heap.size + 1, 0, none⟩ = some (.int .i64 u0) ∧ W.cell? ⟨w.heap.size + 1, 1, none⟩ = some (.int .i64 u1) ∧ W.cell? ⟨w.heap.size + 1, 2, none⟩ = some (.int .i64 u2) ∧ W.cell? ⟨w.heap.size + 1, 3, none⟩ = some (.int .i64 u3) ∧ W.cell? ⟨w.heap.size + 1, 4, none⟩ = some (.slice UA uq uc))
    (first | go_keep)
    (first
      | (go_at_call 15
         refine (HTH.out _ ((HM10.out.trans0 HM12.out).drew)).mono ?_
         rintro e w13 ⟨Z13, hZV13, rfl, hZk13, hm13⟩
         have HZV13 := Lib.hid hZV13
         have HZK13 := Lib.hid hZk13
         have HM13 := Lib.hid ((HM12.out.drew).trans0 hm13)
         have LW13 := Lib.hid (LW10.out.mod0 HM13.out)
         obtain ⟨-, b03, b13, b23, b33, b43⟩ := HBV.out w13 LW13.out.mod
         obtain ⟨z03, z13, z23, z33, z43⟩ := HBB.out w13 HM13.out
         clear hZV13 hZk13 hm13)
      | (go_at_call 14
         refine (HYU.out w13 Z13 LW13.out.mod HZK13.out).mono ?_
         rw [HZV13.out, HMADE.out]
         rintro e w14 ⟨rfl, hm14⟩
         have HM14 := Lib.hid (HM13.out.trans0 hm14)
         have LW14 := Lib.hid (LW13.out.mod0 hm14)
         obtain ⟨⟨a04, a14, a24, a34, a44⟩, b04, b14, b24, b34, b44⟩ := HBV.out w14 LW14.out.mod
         obtain ⟨z04, z14, z24, z34, z44⟩ := HBB.out w14 HM14.out
         clear hm14)
      | fail)
  by_cases hgg : v0 = u0
  · have hgb : (v0 == u0) = true := by simpa using hgg
    have hgd : decide (v0 = u0) = true := decide_eq_true hgg
    clear hgg
    go_wp2_with fail
    go_ret
    exact ⟨rfl, HMS.out.trans0 LW14.out.mod⟩
  have hgb : (v0 == u0) = false := by simpa using hgg
  have hgd : decide (v0 = u0) = false := decide_eq_false hgg
  obtain ⟨x, hx1, hx2, hx3, hx4⟩ := HPL.out (by rw [HVG.out, HUG.out]; exact hgg)
  obtain ⟨hXx, hf0⟩ := HXV.out x hx3.load
  subst hf0
  have hcc := cut_clean HCA8.out LW8.out.ok hx3 hx4
  have HCC := Lib.hid hcc
  have hck : X.v = x := hXx
  have HXx := Lib.hid hXx
  have hcase : (old = true ∧ made = false ∧ E7 ≠ 0) ∨ (old = false ∧ made = true) := by
    have hvu : X0.v ≠ X1.v := fun e => hgg (by rw [← HVG.out, ← HUG.out, e])
    rcases hx1 with h1 | h1
    · refine .inl ⟨?_, ?_, fun e => hvu (h1.symm.trans (hx2 e))⟩
      · rw [← HOLD.out]; exact decide_eq_true (by rw [hXx, h1])
      · rw [← HMADE.out]; exact decide_eq_false (by rw [hXx, h1]; exact hvu)
    · refine .inr ⟨?_, ?_⟩
      · rw [← HOLD.out]; exact decide_eq_false (by rw [hXx, h1]; exact fun e => hvu e.symm)
      · rw [← HMADE.out]; exact decide_eq_true (by rw [hXx, h1])
  have hcln := clean_any F8 d D8 ⟨xg, xn, xl, xs, xA, xc, xms⟩ w14 LW14.out.disk LW14.out.ok (fun W hW => by
      rw [← HXX.out]
      exact HXST.out F8 W (fun i hi => LW8.out.lt i hi) ((HM10.out.trans0 HM14.out).non.trans hW fun k hk => .inl hk)) (LW14.out.errs (HE.out.mod0 HMS.out))
  have hxv2 : Vw.v ⟨xg, xn, xl, xs, xA, xc, xms⟩ = x := by rw [← HXX.out]; exact hXx
  rw [hxv2] at hcln
  obtain ⟨⟨D15, E15⟩, hP15⟩ : ∃ P, cleanD D8 x = P := ⟨_, rfl⟩
  have hok15 : DkOk D15 := by have := cleanD_ok LW8.out.ok x; rwa [hP15] at this
  rw [hP15] at hcln HCC
  have h15 : E15 = 0 := HCC.out.1
  subst h15
  unfold Vw.val at hcln
  simp only at hcln
  rw [HXKK.out] at hcln
  have HCLN := Lib.hid hcln
  have HOK15 := Lib.hid hok15
  clear hcln hok15 hP15 hcc hxv2 hx1 hx2 hx3 hx4 hgg hck hXx
  rcases hcase with ⟨rfl, rfl, hE7⟩ | ⟨rfl, rfl⟩
  · have hEb : (E7 == 0) = false := by simp [hE7]
    have hEc : (E7 != 0) = true := by simp [hE7]
    clear hE7
    go_wp2_with fail
    refine HCLN.out.mono ?_
    intro e w15 hp15
    obtain ⟨rfl, F15, hl15, hm15, hf15⟩ := LW14.out.step hp15 HOK15.out
    have LW15 := Lib.hid hl15
    have hn9 : ¬ F8 w9.heap.size := fun h => by have h1 := LW8.out.lt _ h; have h2 := hsz89; omega
    have HB15 := Lib.hid ((HBX.out.mod HM14.out fun h => h).mod hm15 hn9)
    have HK15 : Hid (VwOk w15 X) := HXST.out F8 w15 (fun i hi => LW8.out.lt i hi) ((HM10.out.trans0 HM14.out).non.trans hm15 fun k hk => .inl hk)
    clear hp15 hl15 hf15 hm15 hn9
    go_wp2_with fail
    refine (loadC_any F15 d D15 w15 LW15.out.disk LW15.out.ok).mono ?_
    intro e w16 hp16
    unfold LoPost at hp16
    rw [HCC.out.2.1] at hp16
    obtain ⟨y, hyv, rfl, hyk, _, hm16⟩ := hp16
    obtain ⟨Y, hY⟩ : ∃ Y, y = Y := ⟨_, rfl⟩
    rw [hY] at hyk hyv
    have HYK := Lib.hid hyk
    have HYV := Lib.hid hyv
    have LW16 := Lib.hid (LW15.out.mod0 hm16)
    have HK16 := Lib.hid (HK15.out.mod0 hm16)
    obtain ⟨yg, yn, yl, ys, yA, yc, yms⟩ := y
    obtain ⟨yk, hykk⟩ : ∃ yk, yms.length = yk := ⟨_, rfl⟩
    have hYval : Y.val = .agg #[.int .i64 yg, .int .i64 yn, .int .i64 yl, .int .i64 ys, .slice yA yk yc] := by rw [← hY]; unfold Vw.val; simp only; rw [hykk]
    have HYE := Lib.hid hYval
    have hlx : X.ms.length ≤ 4096 := by
      have h1 := (encV_len (loadV_check HCC.out.2.1)).2
      rw [← HXx.out] at h1
      simpa [Vw.v] using h1
    have hly : Y.ms.length ≤ 4096 := by
      have h1 := (encV_len (loadV_check HCC.out.2.1)).2
      rw [← hyv] at h1
      simpa [Vw.v] using h1
    have hty : ∀ W, Mod Non w16 W → Calls Tryz.prog 15 #[.agg #[.int .i64 yg, .int .i64 yn, .int .i64 yl, .int .i64 ys, .slice yA yk yc]] W fun e w' => ∃ Z : Vw, Z.v = Y.v ∧ e = .returned Z.val ∧ VwOk w' Z ∧ Mod Non W w' := fun W hW => by
      have := theirs_any Y W (HYK.out.mod0 hW) (by omega)
      rw [HYE.out] at this
      exact this.mono fun e w' ⟨A', c', he, hk', _, hm'⟩ => ⟨⟨Y.gen, Y.next, Y.log, Y.seq, A', c', Y.ms⟩, rfl, he, hk', hm'⟩
    have htx : ∀ W, Mod Non w16 W → Calls Tryz.prog 15 #[.agg #[.int .i64 xg, .int .i64 xn, .int .i64 xl, .int .i64 xs, .slice xA xk xc]] W fun e w' => ∃ Z : Vw, Z.v = X.v ∧ e = .returned Z.val ∧ VwOk w' Z ∧ Mod Non W w' := fun W hW => by
      have := theirs_any X W (HK16.out.mod0 hW) (by omega)
      rw [HXE.out] at this
      exact this.mono fun e w' ⟨A', c', he, hk', _, hm'⟩ => ⟨⟨X.gen, X.next, X.log, X.seq, A', c', X.ms⟩, rfl, he, hk', hm'⟩
    have HTY := Lib.hid hty
    have HTX := Lib.hid htx
    unfold Vw.val
    simp only
    rw [hykk]
    obtain ⟨w17, hw17⟩ : ∃ w17, w16.alloc (.cells #[.int .i64 yg, .int .i64 yn, .int .i64 yl, .int .i64 ys, .slice yA yk yc] 34) = w17 := ⟨_, rfl⟩
    have hm17 : Mod Non w16 w17 := by rw [← hw17]; exact (Mod.refl _ _).alloc _
    have HBY : Hid (Blk w17 w16.heap.size 34 #[.int .i64 yg, .int .i64 yn, .int .i64 yl, .int .i64 ys, .slice yA yk yc]) := by { show Blk _ _ _ _; rw [← hw17]; exact Blk.new _ _ _ }
    have HBX7 := Lib.hid ((HB15.out.mod hm16 fun h => h).mod hm17 fun h => h)
    have HM17 := Lib.hid hm17
    have LW17 := Lib.hid (LW16.out.mod0 hm17)
    have HW17 := Lib.hid hw17
    have hsx : w9.heap.size < w16.heap.size := (HB15.out.mod hm16 fun h => h).lt
    have hB : ∀ W, Mod Non w17 W → (W.cell? ⟨w16.heap.size, 0, none⟩ = some (.int .i64 yg) ∧ W.cell? ⟨w16.heap.size, 1, none⟩ = some (.int .i64 yn) ∧ W.cell? ⟨w16.heap.size, 2, none⟩ = some (.int .i64 yl) ∧ W.cell? ⟨w16.heap.size, 3, none⟩ = some (.int .i64 ys) ∧ W.cell? ⟨w16.heap.size, 4, none⟩ = some (.slice yA yk yc)) ∧ W.cell? ⟨w9.heap.size, 0, none⟩ = some (.int .i64 xg) ∧ W.cell? ⟨w9.heap.size, 1, none⟩ = some (.int .i64 xn) ∧ W.cell? ⟨w9.heap.size, 2, none⟩ = some (.int .i64 xl) ∧ W.cell? ⟨w9.heap.size, 3, none⟩ = some (.int .i64 xs) ∧ W.cell? ⟨w9.heap.size, 4, none⟩ = some (.slice xA xk xc) := fun W hW =>
      ⟨⟨(HBY.out.mod hW fun h => h).cell 0, (HBY.out.mod hW fun h => h).cell 1, (HBY.out.mod hW fun h => h).cell 2, (HBY.out.mod hW fun h => h).cell 3, (HBY.out.mod hW fun h => h).cell 4⟩, (HBX7.out.mod hW fun h => h).cell 0, (HBX7.out.mod hW fun h => h).cell 1, (HBX7.out.mod hW fun h => h).cell 2, (HBX7.out.mod hW fun h => h).cell 3, (HBX7.out.mod hW fun h => h).cell 4⟩
    have HBB7 := Lib.hid hB
    obtain ⟨⟨y0, y1, y2, y3, y4⟩, z0, z1, z2, z3, z4⟩ := hB w17 (Mod.refl _ _)
    clear hm16 hyv hyk hY hYval hty htx hykk hm17 hw17 hB hlx hly
    go_wp2_with fail
    rw [HW17.out]
    go_region_held3 (fun W => (W.cell? ⟨w16.heap.size, 0, none⟩ = some (.int .i64 yg) ∧ W.cell? ⟨w16.heap.size, 1, none⟩ = some (.int .i64 yn) ∧ W.cell? ⟨w16.heap.size, 2, none⟩ = some (.int .i64 yl) ∧ W.cell? ⟨w16.heap.size, 3, none⟩ = some (.int .i64 ys) ∧ W.cell? ⟨w16.heap.size, 4, none⟩ = some (.slice yA yk yc)) ∧ W.cell? ⟨w9.heap.size, 0, none⟩ = some (.int .i64 xg) ∧ W.cell? ⟨w9.heap.size, 1, none⟩ = some (.int .i64 xn) ∧ W.cell? ⟨w9.heap.size, 2, none⟩ = some (.int .i64 xl) ∧ W.cell? ⟨w9.heap.size, 3, none⟩ = some (.int .i64 xs) ∧ W.cell? ⟨w9.heap.size, 4, none⟩ = some (.slice xA xk xc))
      (first | go_keep)
      (first
        | (go_at_call 15
           (with_reducible refine (HTY.out _ (HM17.out.drew)).mono ?_)
           rintro e w18 ⟨Z18, hZV18, rfl, hZk18, hm18⟩
           have HZV18 := Lib.hid hZV18
           have HZK18 := Lib.hid hZk18
           have HM18 := Lib.hid (((Mod.refl Non w17).drew).trans0 hm18)
           have LW18 := Lib.hid (LW17.out.mod0 HM18.out)
           obtain ⟨⟨y01, y11, y21, y31, y41⟩, z05, z15, z25, z35, z45⟩ := HBB7.out w18 HM18.out
           clear hZV18 hZk18 hm18)
        | (go_at_call 15
           (with_reducible refine (HTX.out w18 (HM17.out.trans0 HM18.out)).mono ?_)
           rintro e w19 ⟨Z19, hZV19, rfl, hZk19, hm19⟩
           have HZV19 := Lib.hid hZV19
           have HZK19 := Lib.hid hZk19
           have HZK18' := Lib.hid (HZK18.out.mod0 hm19)
           have HM19 := Lib.hid (HM18.out.trans0 hm19)
           have LW19 := Lib.hid (LW17.out.mod0 HM19.out)
           obtain ⟨⟨y02, y12, y22, y32, y42⟩, z06, z16, z26, z36, z46⟩ := HBB7.out w19 HM19.out
           clear hZV19 hZk19 hm19)
        | (go_at_call 14
           refine (sameVs_any Z18 Z19 w19 HZK18'.out HZK19.out).mono ?_
           rw [HZV18.out, HZV19.out, HYV.out, HXx.out, decide_eq_true rfl]
           rintro e w20 ⟨rfl, hm20⟩
           have HM20 := Lib.hid (HM19.out.trans0 hm20)
           have LW20 := Lib.hid (LW17.out.mod0 HM20.out)
           obtain ⟨⟨y03, y13, y23, y33, y43⟩, z07, z17, z27, z37, z47⟩ := HBB7.out w20 HM20.out
           clear hm20)
        | (go_at_call 16
           refine (names_any F15 d D15 _ LW20.out.disk LW20.out.ok).mono ?_
           rintro e w21 ⟨An, nn, cn, Ln, rfl, hLn, hr21, hnn, hcn, _, hb21⟩
           have hn2 : nn = 2 := by
             have h1 : Ln.length = nn := by simpa using hr21.1
             rw [← h1, namesD_of hLn, namesD_len D15 LW20.out.ok.nd]
             exact HCC.out.2.2
           subst hn2
           have HM21 := Lib.hid (HM20.out.trans0 (Mod.of_below hb21))
           have LW21 := Lib.hid (LW17.out.mod0 HM21.out)
           obtain ⟨⟨y04, y14, y24, y34, y44⟩, z08, z18, z28, z38, z48⟩ := HBB7.out w21 HM21.out
           clear hLn hr21 hb21)
        | fail)
    all_goals
      go_wp2_with fail
      go_ret
      exact ⟨rfl, HMS.out.trans0 LW21.out.mod⟩
  · by_cases hE7 : E7 = 0
    · have hEb : (E7 == 0) = true := by simp [hE7]
      have hEc : (E7 != 0) = false := by simp [hE7]
      have hEd : decide (E7 = 0) = true := decide_eq_true hE7
      go_wp2_with fail
      refine HCLN.out.mono ?_
      intro e w15 hp15
      obtain ⟨rfl, F15, hl15, hm15, hf15⟩ := LW14.out.step hp15 HOK15.out
      have LW15 := Lib.hid hl15
      have hn9 : ¬ F8 w9.heap.size := fun h => by have h1 := LW8.out.lt _ h; have h2 := hsz89; omega
      have HB15 := Lib.hid ((HBX.out.mod HM14.out fun h => h).mod hm15 hn9)
      have HK15 : Hid (VwOk w15 X) := HXST.out F8 w15 (fun i hi => LW8.out.lt i hi) ((HM10.out.trans0 HM14.out).non.trans hm15 fun k hk => .inl hk)
      clear hp15 hl15 hf15 hm15 hn9
      go_wp2_with fail
      refine (loadC_any F15 d D15 w15 LW15.out.disk LW15.out.ok).mono ?_
      intro e w16 hp16
      unfold LoPost at hp16
      rw [HCC.out.2.1] at hp16
      obtain ⟨y, hyv, rfl, hyk, _, hm16⟩ := hp16
      obtain ⟨Y, hY⟩ : ∃ Y, y = Y := ⟨_, rfl⟩
      rw [hY] at hyk hyv
      have HYK := Lib.hid hyk
      have HYV := Lib.hid hyv
      have LW16 := Lib.hid (LW15.out.mod0 hm16)
      have HK16 := Lib.hid (HK15.out.mod0 hm16)
      obtain ⟨yg, yn, yl, ys, yA, yc, yms⟩ := y
      obtain ⟨yk, hykk⟩ : ∃ yk, yms.length = yk := ⟨_, rfl⟩
      have hYval : Y.val = .agg #[.int .i64 yg, .int .i64 yn, .int .i64 yl, .int .i64 ys, .slice yA yk yc] := by rw [← hY]; unfold Vw.val; simp only; rw [hykk]
      have HYE := Lib.hid hYval
      have hlx : X.ms.length ≤ 4096 := by
        have h1 := (encV_len (loadV_check HCC.out.2.1)).2
        rw [← HXx.out] at h1
        simpa [Vw.v] using h1
      have hly : Y.ms.length ≤ 4096 := by
        have h1 := (encV_len (loadV_check HCC.out.2.1)).2
        rw [← hyv] at h1
        simpa [Vw.v] using h1
      have hty : ∀ W, Mod Non w16 W → Calls Tryz.prog 15 #[.agg #[.int .i64 yg, .int .i64 yn, .int .i64 yl, .int .i64 ys, .slice yA yk yc]] W fun e w' => ∃ Z : Vw, Z.v = Y.v ∧ e = .returned Z.val ∧ VwOk w' Z ∧ Mod Non W w' := fun W hW => by
        have := theirs_any Y W (HYK.out.mod0 hW) (by omega)
        rw [HYE.out] at this
        exact this.mono fun e w' ⟨A', c', he, hk', _, hm'⟩ => ⟨⟨Y.gen, Y.next, Y.log, Y.seq, A', c', Y.ms⟩, rfl, he, hk', hm'⟩
      have htx : ∀ W, Mod Non w16 W → Calls Tryz.prog 15 #[.agg #[.int .i64 xg, .int .i64 xn, .int .i64 xl, .int .i64 xs, .slice xA xk xc]] W fun e w' => ∃ Z : Vw, Z.v = X.v ∧ e = .returned Z.val ∧ VwOk w' Z ∧ Mod Non W w' := fun W hW => by
        have := theirs_any X W (HK16.out.mod0 hW) (by omega)
        rw [HXE.out] at this
        exact this.mono fun e w' ⟨A', c', he, hk', _, hm'⟩ => ⟨⟨X.gen, X.next, X.log, X.seq, A', c', X.ms⟩, rfl, he, hk', hm'⟩
      have HTY := Lib.hid hty
      have HTX := Lib.hid htx
      unfold Vw.val
      simp only
      rw [hykk]
      obtain ⟨w17, hw17⟩ : ∃ w17, w16.alloc (.cells #[.int .i64 yg, .int .i64 yn, .int .i64 yl, .int .i64 ys, .slice yA yk yc] 34) = w17 := ⟨_, rfl⟩
      have hm17 : Mod Non w16 w17 := by rw [← hw17]; exact (Mod.refl _ _).alloc _
      have HBY : Hid (Blk w17 w16.heap.size 34 #[.int .i64 yg, .int .i64 yn, .int .i64 yl, .int .i64 ys, .slice yA yk yc]) := by { show Blk _ _ _ _; rw [← hw17]; exact Blk.new _ _ _ }
      have HBX7 := Lib.hid ((HB15.out.mod hm16 fun h => h).mod hm17 fun h => h)
      have HM17 := Lib.hid hm17
      have LW17 := Lib.hid (LW16.out.mod0 hm17)
      have HW17 := Lib.hid hw17
      have hsx : w9.heap.size < w16.heap.size := (HB15.out.mod hm16 fun h => h).lt
      have hB : ∀ W, Mod Non w17 W → (W.cell? ⟨w16.heap.size, 0, none⟩ = some (.int .i64 yg) ∧ W.cell? ⟨w16.heap.size, 1, none⟩ = some (.int .i64 yn) ∧ W.cell? ⟨w16.heap.size, 2, none⟩ = some (.int .i64 yl) ∧ W.cell? ⟨w16.heap.size, 3, none⟩ = some (.int .i64 ys) ∧ W.cell? ⟨w16.heap.size, 4, none⟩ = some (.slice yA yk yc)) ∧ W.cell? ⟨w9.heap.size, 0, none⟩ = some (.int .i64 xg) ∧ W.cell? ⟨w9.heap.size, 1, none⟩ = some (.int .i64 xn) ∧ W.cell? ⟨w9.heap.size, 2, none⟩ = some (.int .i64 xl) ∧ W.cell? ⟨w9.heap.size, 3, none⟩ = some (.int .i64 xs) ∧ W.cell? ⟨w9.heap.size, 4, none⟩ = some (.slice xA xk xc) := fun W hW =>
        ⟨⟨(HBY.out.mod hW fun h => h).cell 0, (HBY.out.mod hW fun h => h).cell 1, (HBY.out.mod hW fun h => h).cell 2, (HBY.out.mod hW fun h => h).cell 3, (HBY.out.mod hW fun h => h).cell 4⟩, (HBX7.out.mod hW fun h => h).cell 0, (HBX7.out.mod hW fun h => h).cell 1, (HBX7.out.mod hW fun h => h).cell 2, (HBX7.out.mod hW fun h => h).cell 3, (HBX7.out.mod hW fun h => h).cell 4⟩
      have HBB7 := Lib.hid hB
      obtain ⟨⟨y0, y1, y2, y3, y4⟩, z0, z1, z2, z3, z4⟩ := hB w17 (Mod.refl _ _)
      clear hm16 hyv hyk hY hYval hty htx hykk hm17 hw17 hB hlx hly
      go_wp2_with fail
      rw [HW17.out]
      go_region_held3 (fun W => (W.cell? ⟨w16.heap.size, 0, none⟩ = some (.int .i64 yg) ∧ W.cell? ⟨w16.heap.size, 1, none⟩ = some (.int .i64 yn) ∧ W.cell? ⟨w16.heap.size, 2, none⟩ = some (.int .i64 yl) ∧ W.cell? ⟨w16.heap.size, 3, none⟩ = some (.int .i64 ys) ∧ W.cell? ⟨w16.heap.size, 4, none⟩ = some (.slice yA yk yc)) ∧ W.cell? ⟨w9.heap.size, 0, none⟩ = some (.int .i64 xg) ∧ W.cell? ⟨w9.heap.size, 1, none⟩ = some (.int .i64 xn) ∧ W.cell? ⟨w9.heap.size, 2, none⟩ = some (.int .i64 xl) ∧ W.cell? ⟨w9.heap.size, 3, none⟩ = some (.int .i64 xs) ∧ W.cell? ⟨w9.heap.size, 4, none⟩ = some (.slice xA xk xc))
        (first | go_keep)
        (first
          | (go_at_call 15
             (with_reducible refine (HTY.out _ (HM17.out.drew)).mono ?_)
             rintro e w18 ⟨Z18, hZV18, rfl, hZk18, hm18⟩
             have HZV18 := Lib.hid hZV18
             have HZK18 := Lib.hid hZk18
             have HM18 := Lib.hid (((Mod.refl Non w17).drew).trans0 hm18)
             have LW18 := Lib.hid (LW17.out.mod0 HM18.out)
             obtain ⟨⟨y01, y11, y21, y31, y41⟩, z05, z15, z25, z35, z45⟩ := HBB7.out w18 HM18.out
             clear hZV18 hZk18 hm18)
          | (go_at_call 15
             (with_reducible refine (HTX.out w18 (HM17.out.trans0 HM18.out)).mono ?_)
             rintro e w19 ⟨Z19, hZV19, rfl, hZk19, hm19⟩
             have HZV19 := Lib.hid hZV19
             have HZK19 := Lib.hid hZk19
             have HZK18' := Lib.hid (HZK18.out.mod0 hm19)
             have HM19 := Lib.hid (HM18.out.trans0 hm19)
             have LW19 := Lib.hid (LW17.out.mod0 HM19.out)
             obtain ⟨⟨y02, y12, y22, y32, y42⟩, z06, z16, z26, z36, z46⟩ := HBB7.out w19 HM19.out
             clear hZV19 hZk19 hm19)
          | (go_at_call 14
             refine (sameVs_any Z18 Z19 w19 HZK18'.out HZK19.out).mono ?_
             rw [HZV18.out, HZV19.out, HYV.out, HXx.out, decide_eq_true rfl]
             rintro e w20 ⟨rfl, hm20⟩
             have HM20 := Lib.hid (HM19.out.trans0 hm20)
             have LW20 := Lib.hid (LW17.out.mod0 HM20.out)
             obtain ⟨⟨y03, y13, y23, y33, y43⟩, z07, z17, z27, z37, z47⟩ := HBB7.out w20 HM20.out
             clear hm20)
          | (go_at_call 16
             refine (names_any F15 d D15 _ LW20.out.disk LW20.out.ok).mono ?_
             rintro e w21 ⟨An, nn, cn, Ln, rfl, hLn, hr21, hnn, hcn, _, hb21⟩
             have hn2 : nn = 2 := by
               have h1 : Ln.length = nn := by simpa using hr21.1
               rw [← h1, namesD_of hLn, namesD_len D15 LW20.out.ok.nd]
               exact HCC.out.2.2
             subst hn2
             have HM21 := Lib.hid (HM20.out.trans0 (Mod.of_below hb21))
             have LW21 := Lib.hid (LW17.out.mod0 HM21.out)
             obtain ⟨⟨y04, y14, y24, y34, y44⟩, z08, z18, z28, z38, z48⟩ := HBB7.out w21 HM21.out
             clear hLn hr21 hb21)
          | fail)
      all_goals
        go_wp2_with fail
        go_ret
        exact ⟨rfl, HMS.out.trans0 LW21.out.mod⟩
    · have hEb : (E7 == 0) = false := by simp [hE7]
      have hEc : (E7 != 0) = true := by simp [hE7]
      have hEd : decide (E7 = 0) = false := decide_eq_false hE7
      go_wp2_with fail
      refine HCLN.out.mono ?_
      intro e w15 hp15
      obtain ⟨rfl, F15, hl15, hm15, hf15⟩ := LW14.out.step hp15 HOK15.out
      have LW15 := Lib.hid hl15
      have hn9 : ¬ F8 w9.heap.size := fun h => by have h1 := LW8.out.lt _ h; have h2 := hsz89; omega
      have HB15 := Lib.hid ((HBX.out.mod HM14.out fun h => h).mod hm15 hn9)
      have HK15 : Hid (VwOk w15 X) := HXST.out F8 w15 (fun i hi => LW8.out.lt i hi) ((HM10.out.trans0 HM14.out).non.trans hm15 fun k hk => .inl hk)
      clear hp15 hl15 hf15 hm15 hn9
      go_wp2_with fail
      refine (loadC_any F15 d D15 w15 LW15.out.disk LW15.out.ok).mono ?_
      intro e w16 hp16
      unfold LoPost at hp16
      rw [HCC.out.2.1] at hp16
      obtain ⟨y, hyv, rfl, hyk, _, hm16⟩ := hp16
      obtain ⟨Y, hY⟩ : ∃ Y, y = Y := ⟨_, rfl⟩
      rw [hY] at hyk hyv
      have HYK := Lib.hid hyk
      have HYV := Lib.hid hyv
      have LW16 := Lib.hid (LW15.out.mod0 hm16)
      have HK16 := Lib.hid (HK15.out.mod0 hm16)
      obtain ⟨yg, yn, yl, ys, yA, yc, yms⟩ := y
      obtain ⟨yk, hykk⟩ : ∃ yk, yms.length = yk := ⟨_, rfl⟩
      have hYval : Y.val = .agg #[.int .i64 yg, .int .i64 yn, .int .i64 yl, .int .i64 ys, .slice yA yk yc] := by rw [← hY]; unfold Vw.val; simp only; rw [hykk]
      have HYE := Lib.hid hYval
      have hlx : X.ms.length ≤ 4096 := by
        have h1 := (encV_len (loadV_check HCC.out.2.1)).2
        rw [← HXx.out] at h1
        simpa [Vw.v] using h1
      have hly : Y.ms.length ≤ 4096 := by
        have h1 := (encV_len (loadV_check HCC.out.2.1)).2
        rw [← hyv] at h1
        simpa [Vw.v] using h1
      have hty : ∀ W, Mod Non w16 W → Calls Tryz.prog 15 #[.agg #[.int .i64 yg, .int .i64 yn, .int .i64 yl, .int .i64 ys, .slice yA yk yc]] W fun e w' => ∃ Z : Vw, Z.v = Y.v ∧ e = .returned Z.val ∧ VwOk w' Z ∧ Mod Non W w' := fun W hW => by
        have := theirs_any Y W (HYK.out.mod0 hW) (by omega)
        rw [HYE.out] at this
        exact this.mono fun e w' ⟨A', c', he, hk', _, hm'⟩ => ⟨⟨Y.gen, Y.next, Y.log, Y.seq, A', c', Y.ms⟩, rfl, he, hk', hm'⟩
      have htx : ∀ W, Mod Non w16 W → Calls Tryz.prog 15 #[.agg #[.int .i64 xg, .int .i64 xn, .int .i64 xl, .int .i64 xs, .slice xA xk xc]] W fun e w' => ∃ Z : Vw, Z.v = X.v ∧ e = .returned Z.val ∧ VwOk w' Z ∧ Mod Non W w' := fun W hW => by
        have := theirs_any X W (HK16.out.mod0 hW) (by omega)
        rw [HXE.out] at this
        exact this.mono fun e w' ⟨A', c', he, hk', _, hm'⟩ => ⟨⟨X.gen, X.next, X.log, X.seq, A', c', X.ms⟩, rfl, he, hk', hm'⟩
      have HTY := Lib.hid hty
      have HTX := Lib.hid htx
      unfold Vw.val
      simp only
      rw [hykk]
      obtain ⟨w17, hw17⟩ : ∃ w17, w16.alloc (.cells #[.int .i64 yg, .int .i64 yn, .int .i64 yl, .int .i64 ys, .slice yA yk yc] 34) = w17 := ⟨_, rfl⟩
      have hm17 : Mod Non w16 w17 := by rw [← hw17]; exact (Mod.refl _ _).alloc _
      have HBY : Hid (Blk w17 w16.heap.size 34 #[.int .i64 yg, .int .i64 yn, .int .i64 yl, .int .i64 ys, .slice yA yk yc]) := by { show Blk _ _ _ _; rw [← hw17]; exact Blk.new _ _ _ }
      have HBX7 := Lib.hid ((HB15.out.mod hm16 fun h => h).mod hm17 fun h => h)
      have HM17 := Lib.hid hm17
      have LW17 := Lib.hid (LW16.out.mod0 hm17)
      have HW17 := Lib.hid hw17
      have hsx : w9.heap.size < w16.heap.size := (HB15.out.mod hm16 fun h => h).lt
      have hB : ∀ W, Mod Non w17 W → (W.cell? ⟨w16.heap.size, 0, none⟩ = some (.int .i64 yg) ∧ W.cell? ⟨w16.heap.size, 1, none⟩ = some (.int .i64 yn) ∧ W.cell? ⟨w16.heap.size, 2, none⟩ = some (.int .i64 yl) ∧ W.cell? ⟨w16.heap.size, 3, none⟩ = some (.int .i64 ys) ∧ W.cell? ⟨w16.heap.size, 4, none⟩ = some (.slice yA yk yc)) ∧ W.cell? ⟨w9.heap.size, 0, none⟩ = some (.int .i64 xg) ∧ W.cell? ⟨w9.heap.size, 1, none⟩ = some (.int .i64 xn) ∧ W.cell? ⟨w9.heap.size, 2, none⟩ = some (.int .i64 xl) ∧ W.cell? ⟨w9.heap.size, 3, none⟩ = some (.int .i64 xs) ∧ W.cell? ⟨w9.heap.size, 4, none⟩ = some (.slice xA xk xc) := fun W hW =>
        ⟨⟨(HBY.out.mod hW fun h => h).cell 0, (HBY.out.mod hW fun h => h).cell 1, (HBY.out.mod hW fun h => h).cell 2, (HBY.out.mod hW fun h => h).cell 3, (HBY.out.mod hW fun h => h).cell 4⟩, (HBX7.out.mod hW fun h => h).cell 0, (HBX7.out.mod hW fun h => h).cell 1, (HBX7.out.mod hW fun h => h).cell 2, (HBX7.out.mod hW fun h => h).cell 3, (HBX7.out.mod hW fun h => h).cell 4⟩
      have HBB7 := Lib.hid hB
      obtain ⟨⟨y0, y1, y2, y3, y4⟩, z0, z1, z2, z3, z4⟩ := hB w17 (Mod.refl _ _)
      clear hm16 hyv hyk hY hYval hty htx hykk hm17 hw17 hB hlx hly
      go_wp2_with fail
      rw [HW17.out]
      go_region_held3 (fun W => (W.cell? ⟨w16.heap.size, 0, none⟩ = some (.int .i64 yg) ∧ W.cell? ⟨w16.heap.size, 1, none⟩ = some (.int .i64 yn) ∧ W.cell? ⟨w16.heap.size, 2, none⟩ = some (.int .i64 yl) ∧ W.cell? ⟨w16.heap.size, 3, none⟩ = some (.int .i64 ys) ∧ W.cell? ⟨w16.heap.size, 4, none⟩ = some (.slice yA yk yc)) ∧ W.cell? ⟨w9.heap.size, 0, none⟩ = some (.int .i64 xg) ∧ W.cell? ⟨w9.heap.size, 1, none⟩ = some (.int .i64 xn) ∧ W.cell? ⟨w9.heap.size, 2, none⟩ = some (.int .i64 xl) ∧ W.cell? ⟨w9.heap.size, 3, none⟩ = some (.int .i64 xs) ∧ W.cell? ⟨w9.heap.size, 4, none⟩ = some (.slice xA xk xc))
        (first | go_keep)
        (first
          | (go_at_call 15
             (with_reducible refine (HTY.out _ (HM17.out.drew)).mono ?_)
             rintro e w18 ⟨Z18, hZV18, rfl, hZk18, hm18⟩
             have HZV18 := Lib.hid hZV18
             have HZK18 := Lib.hid hZk18
             have HM18 := Lib.hid (((Mod.refl Non w17).drew).trans0 hm18)
             have LW18 := Lib.hid (LW17.out.mod0 HM18.out)
             obtain ⟨⟨y01, y11, y21, y31, y41⟩, z05, z15, z25, z35, z45⟩ := HBB7.out w18 HM18.out
             clear hZV18 hZk18 hm18)
          | (go_at_call 15
             (with_reducible refine (HTX.out w18 (HM17.out.trans0 HM18.out)).mono ?_)
             rintro e w19 ⟨Z19, hZV19, rfl, hZk19, hm19⟩
             have HZV19 := Lib.hid hZV19
             have HZK19 := Lib.hid hZk19
             have HZK18' := Lib.hid (HZK18.out.mod0 hm19)
             have HM19 := Lib.hid (HM18.out.trans0 hm19)
             have LW19 := Lib.hid (LW17.out.mod0 HM19.out)
             obtain ⟨⟨y02, y12, y22, y32, y42⟩, z06, z16, z26, z36, z46⟩ := HBB7.out w19 HM19.out
             clear hZV19 hZk19 hm19)
          | (go_at_call 14
             refine (sameVs_any Z18 Z19 w19 HZK18'.out HZK19.out).mono ?_
             rw [HZV18.out, HZV19.out, HYV.out, HXx.out, decide_eq_true rfl]
             rintro e w20 ⟨rfl, hm20⟩
             have HM20 := Lib.hid (HM19.out.trans0 hm20)
             have LW20 := Lib.hid (LW17.out.mod0 HM20.out)
             obtain ⟨⟨y03, y13, y23, y33, y43⟩, z07, z17, z27, z37, z47⟩ := HBB7.out w20 HM20.out
             clear hm20)
          | (go_at_call 16
             refine (names_any F15 d D15 _ LW20.out.disk LW20.out.ok).mono ?_
             rintro e w21 ⟨An, nn, cn, Ln, rfl, hLn, hr21, hnn, hcn, _, hb21⟩
             have hn2 : nn = 2 := by
               have h1 : Ln.length = nn := by simpa using hr21.1
               rw [← h1, namesD_of hLn, namesD_len D15 LW20.out.ok.nd]
               exact HCC.out.2.2
             subst hn2
             have HM21 := Lib.hid (HM20.out.trans0 (Mod.of_below hb21))
             have LW21 := Lib.hid (LW17.out.mod0 HM21.out)
             obtain ⟨⟨y04, y14, y24, y34, y44⟩, z08, z18, z28, z38, z48⟩ := HBB7.out w21 HM21.out
             clear hLn hr21 hb21)
          | fail)
      all_goals
        go_wp2_with fail
        go_ret
        exact ⟨rfl, HMS.out.trans0 LW21.out.mod⟩

end Go.Proofs.YtdpjnpjmokncdaaGreatDoor
