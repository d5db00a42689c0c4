/- sawyerlaw11.CatLoads: the walk. -/
import Derived.Test.YtdpjnpjmokncdaaGreatDoorLoadWM
import Derived.Test.YtdpjnpjmokncdaaGreatDoorB39
import Derived.Deep.RegionHeld3
import Derived.Test.YtdpjnpjmokncdaaGreatDoorB30
namespace Go.Proofs.YtdpjnpjmokncdaaGreatDoor
open Go.RowKit

theorem loadP_calm {cap : Int} {xs : List Fw} {D : Dk} (h : loadP cap xs = some D) : Calm D ∧ D.done = 0 := by
  unfold loadP at h
  cases hg : loadG (newD cap) xs with
  | none => rw [hg] at h; cases h
  | some E =>
    rw [hg] at h
    simp only at h
    split at h
    · cases h
    · cases h
      have := loadG_ok (LdOk.start cap) hg
      exact ⟨⟨this.off, this.left⟩, this.done⟩
theorem crash1_done (D : Dk) (nm : ByteArray) (p : Option Int) : (crash1 D nm p).done = D.done := by unfold crash1; split <;> rfl
theorem crashL_done (picks : List Int) : ∀ (L : List ByteArray) (k : Nat) (D : Dk), (crashL picks k L D).done = D.done
  | [], _, _ => rfl
  | _ :: L, k, D => by rw [crashL, crashL_done picks L (k + 1), crash1_done]
theorem crashD_done (D : Dk) (picks : List Int) (L : List ByteArray) : (crashD D picks L).done = D.done := crashL_done picks L 0 D

/-- behind a crash all bytes are sure. -/
theorem crash1_safe {D : Dk} (ok : DkOk D) (nm : ByteArray) (p : Option Int) {k : ByteArray} {f : Fl} (hf : findF (crash1 D nm p).files k = some f) : (k = nm → f.safe = f.bytes.length) ∧ (k ≠ nm → findF D.files k = some f) := by
  unfold crash1 at hf
  split at hf
  · rename_i hn
    exact ⟨fun e => (by rw [e, hn] at hf; cases hf), fun _ => hf⟩
  · rename_i g hg
    refine ⟨fun e => ?_, fun hk => ?_⟩
    · subst e
      have := findF_put_same ⟨k, keepC g p, g.bytes.take (keepC g p)⟩ D.files
      simp only at this hf
      rw [this] at hf
      cases hf
      have h1 := keepC_le (ok.sf g (findF_mem hg)) p
      simp only [List.length_take]
      omega
    · rw [findF_put_other _ (fun e => hk e.symm)] at hf
      exact hf
theorem crashL_safe (picks : List Int) {k : ByteArray} : ∀ (L : List ByteArray) (i : Nat) {D : Dk}, DkOk D → (k ∈ L ∨ ∀ f, findF D.files k = some f → f.safe = f.bytes.length) → ∀ f, findF (crashL picks i L D).files k = some f → f.safe = f.bytes.length
  | [], i, D, ok, h, f, hf => by
    rcases h with h | h
    · cases h
    · exact h f hf
  | n :: L, i, D, ok, h, f, hf => by
    rw [crashL] at hf
    refine crashL_safe picks L (i + 1) (crash1_ok ok n _) ?_ f hf
    by_cases hk : k = n
    · exact .inr fun g hg => (crash1_safe ok n _ hg).1 hk
    · rcases h with h | h
      · rcases List.mem_cons.1 h with h | h
        · exact absurd h hk
        · exact .inl h
      · exact .inr fun g hg => h g ((crash1_safe ok n _ hg).2 hk)
theorem crashD_safe {D : Dk} (ok : DkOk D) (picks : List Int) {L : List ByteArray} (hL : NamesAre D L) {k : ByteArray} {f : Fl} (hf : findF (crashD D picks L).files k = some f) : f = fullF k f.bytes := by
  have hs : f.safe = f.bytes.length := by
    by_cases hk : k ∈ L
    · exact crashL_safe picks L 0 ok (.inl hk) f hf
    · have hnone : findF D.files k = none := by
        cases h : findF D.files k with
        | none => rfl
        | some g =>
          rw [namesD_of hL] at hk
          exact absurd ((namesD_mem ok.nd).2 (by rw [h]; rfl)) hk
      have := crashD_none picks L hnone
      rw [this] at hf
      cases hf
  have hn := find_name hf
  cases f
  simp only at hs hn
  subst hs hn
  rfl

/-- Load reads two files. -/
theorem loadV_same {D D' : Dk} {v : Vs} (h : loadV D = some v) (h1 : findF D'.files curN = findF D.files curN) (h2 : findF D'.files (foldN manP v.gen) = findF D.files (foldN manP v.gen)) : loadV D' = some v := by
  have e1 : framedP D' curN = framedP D curN := by unfold framedP; rw [h1]
  have e2 : framedP D' (foldN manP v.gen) = framedP D (foldN manP v.gen) := by unfold framedP; rw [h2]
  unfold loadV at h ⊢
  rw [h1, e1]
  split at h
  · exact h
  · rename_i f hf
    split at h
    · cases h
    · rename_i b hb
      split at h
      · rename_i g hg
        split at h
        · cases h
        · rename_i mb hmb
          split at h
          · cases h
          · rename_i u hu
            split at h
            · rename_i hug
              cases h
              rw [← hug] at hmb
              rw [← hug, e2, hmb]
              simp only
              rw [hu]
              simp only
              simp
            · cases h
      · cases h
theorem loads_plain {D : Dk} (ok : DkOk D) (picks : List Int) {L : List ByteArray} (hL : NamesAre D L) {v : Vs} (hv : loadV (crashD D picks L) = some v) (L2 : List ByteArray) :
    (cleanD (crashD D picks L) v).2 = 0 ∧ loadV (crashD (cleanD (crashD D picks L) v).1 [] L2) = some v := by
  have hck := loadV_check hv
  obtain ⟨z, _, hf⟩ := cleanD_calm (crashD_calm D picks L) (crashD_ok ok picks L) hck
  refine ⟨z, ?_⟩
  have key : ∀ k, cleanSo v k = false → findF (crashD (cleanD (crashD D picks L) v).1 [] L2).files k = findF (crashD D picks L).files k := fun k hk => by
    have h1 : findF (cleanD (crashD D picks L) v).1.files k = findF (crashD D picks L).files k := by rw [hf, hk]; rfl
    cases h2 : findF (crashD D picks L).files k with
    | none =>
      rw [h2] at h1
      exact crashD_none [] L2 h1
    | some f =>
      have h3 := crashD_safe ok picks hL h2
      rw [h2, h3] at h1
      rw [h3]
      exact crashD_full [] L2 h1
  exact loadV_same hv (key _ (cleanSo_cur v)) (key _ (cleanSo_own (checkV_gen hck)))

set_option maxRecDepth 100000 in
set_option maxHeartbeats 8000000 in
theorem loads_walk (A : Option Addr) (n c : Nat) (fs : List Fw) (PA : Option Addr) (pn pc : Nat) (picks : List Int) (w : World) (hL : Lay w) (hE : Errs w) (hx : Rd w A (n * 3) (flatW fs)) (hb : ∀ x ∈ fs, Rd w x.A x.bytes.length (by8 x.bytes)) (hz : ∀ x ∈ fs, x.name.size ≤ 140737488351232) (hc : costW fs ≤ 1099511627776) (hn : n ≤ 100000000000)
    (hp : Rd w PA pn (picks.map (Value.int .i64))) (hpn : pn ≤ 9223372036854775807) :
    Calls Tryz.prog 7 #[.slice A n c, .slice PA pn pc] w fun e w' => e = .returned (.bool true) ∧ Mod Non w w' := by
  have HL := Lib.hid hL
  have HE := Lib.hid hE
  have HPK := Lib.hid hp
  have hboth : ∀ W, Mod Non w W → Calls Tryz.prog 21 #[.int .i64 1099511627776, .slice A n c] W (BoPost (loadP 1099511627776 fs) W) := fun W hW =>
    both_any 1099511627776 A n c fs W (HL.out.mod0 hW) (by omega) (by omega) (hx.mod0 hW) (fun x hx' => (hb x hx').mod0 hW) hz hc hn
  have HBO := Lib.hid hboth
  clear hL hE hp hboth hx hb hz
  go_enter Tryz.func7, Tryz.ntmps7
  go_wp2_with fail
  refine (awakeC_any w HL.out HE.out).mono ?_
  rintro e w1 ⟨rfl, hm1⟩
  have HM1 := Lib.hid hm1
  clear hm1
  go_wp2_with fail
  refine (HBO.out w1 HM1.out).mono ?_
  intro e w2 hp2
  unfold BoPost at hp2
  cases hld : loadP 1099511627776 fs with
  | none =>
    rw [hld] at hp2
    obtain ⟨rfl, hm2⟩ := hp2
    have HM2 := Lib.hid (HM1.out.trans0 hm2)
    clear hm2 hld
    go_wp2_with fail
    go_ret
    exact ⟨rfl, HM2.out⟩
  | some D =>
    rw [hld] at hp2
    obtain ⟨d, F, r, E, rfl, hd2, _, hm2, hF2, _⟩ := hp2
    have hcal := loadP_calm hld
    have LW2 : Hid (Lw w d F D w2) := ⟨hd2, loadP_ok hld (by omega) (by omega), HM1.out.trans0 hm2, fun k hk => Nat.le_trans HM1.out.size (hF2 k hk).1⟩
    have HCAL := Lib.hid hcal
    clear hd2 hm2 hF2 hcal hld
    go_wp2_with fail
    refine (crash_any F d D PA pn pc picks w2 LW2.out.disk LW2.out.ok (LW2.out.row HPK.out) hpn).mono ?_
    rintro e w3 ⟨L3, hL3, hp3⟩
    obtain ⟨rfl, F3, hl3, _, _⟩ := LW2.out.step hp3 (crashD_ok LW2.out.ok picks L3)
    have LW3 := Lib.hid hl3
    have hdn : (crashD D picks L3).done = 0 := by rw [crashD_done]; exact HCAL.out.2
    have hpl := fun v (hv : loadV (crashD D picks L3) = some v) L2 => loads_plain LW2.out.ok picks hL3 hv L2
    obtain ⟨D3, hD3⟩ : ∃ D3, crashD D picks L3 = D3 := ⟨_, rfl⟩
    rw [hD3] at LW3 hdn hpl
    have HDN := Lib.hid hdn
    have HPL := Lib.hid hpl
    clear hp3 hl3 hL3 hdn hD3 hpl
    go_wp2_with fail
    refine (loadC_any F3 d D3 w3 LW3.out.disk LW3.out.ok).mono ?_
    intro e w4 hp4
    unfold LoPost at hp4
    cases hlv : loadV D3 with
    | none =>
      rw [hlv] at hp4
      obtain ⟨rfl, hm4⟩ := hp4
      have LW4 := Lib.hid (LW3.out.mod0 hm4)
      clear hm4 hlv
      go_wp2_with fail
      refine (ops_any F3 d D3 _ (LW4.out.disk.mod0 ((Mod.refl _ _).alloc _))).mono ?_
      rw [HDN.out]
      rintro e w5 ⟨rfl, rfl⟩
      go_wp2_with fail
      refine (ops_any F3 d D3 _ (LW4.out.disk.mod0 ((Mod.refl _ _).alloc _))).mono ?_
      rw [HDN.out]
      rintro e w5 ⟨rfl, rfl⟩
      go_wp2_with fail
      go_ret
      exact ⟨rfl, LW4.out.mod.alloc _⟩
    | some v =>
      rw [hlv] at hp4
      obtain ⟨x, hxv, rfl, hxk, hxst, hm4⟩ := hp4
      have HLV := Lib.hid hlv
      have hck := loadV_check hlv
      have hv4k := (encV_len hck).2
      obtain ⟨X, hX⟩ : ∃ X, x = X := ⟨_, rfl⟩
      rw [hX] at hxk hxst hxv
      have HXK := Lib.hid hxk
      have HXV := Lib.hid hxv
      have HXST := Lib.hid hxst
      have hxl : X.ms.length ≤ 4096 := by rw [← hxv] at hv4k; simpa [Vw.v] using hv4k
      have LW4 := Lib.hid (LW3.out.mod0 hm4)
      have hsz34 : w3.heap.size ≤ w4.heap.size := hm4.size
      obtain ⟨xg, xn, xl, xs, xA, xc, xms⟩ := x
      obtain ⟨xk, hxkk⟩ : ∃ xk, xms.length = xk := ⟨_, rfl⟩
      have hXval : X.val = .agg #[.int .i64 xg, .int .i64 xn, .int .i64 xl, .int .i64 xs, .slice xA xk xc] := by rw [← hX]; unfold Vw.val; simp only; rw [hxkk]
      have hXX : (⟨xg, xn, xl, xs, xA, xc, xms⟩ : Vw) = X := hX
      have HXX := Lib.hid hXX
      have HXE := Lib.hid hXval
      have HXKK := Lib.hid hxkk
      have HXL := Lib.hid hxl
      unfold Vw.val
      simp only
      rw [hxkk]
      obtain ⟨w5, hw5⟩ : ∃ w5, w4.alloc (.cells #[.int .i64 xg, .int .i64 xn, .int .i64 xl, .int .i64 xs, .slice xA xk xc] 34) = w5 := ⟨_, rfl⟩
      have hm5 : Mod Non w4 w5 := by rw [← hw5]; exact (Mod.refl _ _).alloc _
      have HBX : Hid (Blk w5 w4.heap.size 34 #[.int .i64 xg, .int .i64 xn, .int .i64 xl, .int .i64 xs, .slice xA xk xc]) := by { show Blk _ _ _ _; rw [← hw5]; exact Blk.new _ _ _ }
      have HM5 := Lib.hid hm5
      have LW5 := Lib.hid (LW4.out.mod0 hm5)
      have HW5 := Lib.hid hw5
      have x0 := HBX.out.cell 0
      have x1 := HBX.out.cell 1
      have x2 := HBX.out.cell 2
      have x3 := HBX.out.cell 3
      have x4 := HBX.out.cell 4
      simp only [List.getElem?_toArray, List.getElem?_cons_zero, List.getElem?_cons_succ] at x0 x1 x2 x3 x4
      rw [← hw5] at x0 x1 x2 x3 x4
      obtain ⟨⟨D6, E6⟩, hP6⟩ : ∃ P, cleanD D3 v = P := ⟨_, rfl⟩
      have hcln := clean_any F3 d D3 ⟨xg, xn, xl, xs, xA, xc, xms⟩ w5 LW5.out.disk LW5.out.ok (fun W hW => by
        rw [HXX.out]
        exact HXST.out F3 W (fun i hi => LW3.out.lt i hi) (hm5.non.trans hW fun k hk => .inl hk)) (LW5.out.errs HE.out)
      have hxv2 : Vw.v ⟨xg, xn, xl, xs, xA, xc, xms⟩ = v := by rw [HXX.out]; exact hxv
      have hok6 : DkOk D6 := by have := cleanD_ok LW5.out.ok v; rwa [hP6] at this
      have hpl := HPL.out v hlv
      rw [hxv2, hP6] at hcln
      rw [hP6] at hpl
      have h60 : E6 = 0 := (hpl []).1
      subst h60
      unfold Vw.val at hcln
      simp only at hcln
      rw [hxkk] at hcln
      have HCLN := Lib.hid hcln
      have HOK6 := Lib.hid hok6
      have HPL6 := Lib.hid hpl
      clear hm4 hxv hxk hxst hX hXval hXX hxkk hm5 hw5 hlv hck hv4k hxl hcln hxv2 hok6 hpl hP6
      go_wp2_with fail
      rw [HW5.out]
      refine (ops_any F3 d D3 w5 LW5.out.disk).mono ?_
      rw [HDN.out]
      rintro e w6 ⟨rfl, rfl⟩
      rw [HW5.out] at x0 x1 x2 x3 x4
      go_wp2_with fail
      refine HCLN.out.mono ?_
      intro e w7 hp7
      obtain ⟨rfl, F7, hl7, hm7, hf7⟩ := LW5.out.step hp7 HOK6.out
      have LW7 := Lib.hid hl7
      have hn9 : ¬ F3 w4.heap.size := fun h => by have h1 := LW3.out.lt _ h; omega
      have HB7 := Lib.hid (HBX.out.mod hm7 hn9)
      have hn7 : ¬ F7 w4.heap.size := fun h => (hf7 _ h).elim hn9 fun h => by have := HBX.out.lt; omega
      have HK7 : Hid (∀ W, Mod F7 w7 W → VwOk W X) := fun W hW => HXST.out (fun i => F3 i ∨ F7 i ∧ i < w3.heap.size) W (fun i hi => hi.elim (fun h => LW3.out.lt i h) fun h => h.2) (by
        refine (HM5.out.non.trans (hm7.mono (T := fun i => F3 i ∨ F7 i ∧ i < w3.heap.size) fun k h => .inl h) fun k hk => .inl hk).trans hW fun k hk => ?_
        rcases Nat.lt_or_ge k w3.heap.size with h | h
        · exact .inl (.inr ⟨hk, h⟩)
        · rcases hf7 k hk with h2 | h2
          · exact .inl (.inl h2)
          · exact .inr (by have := HM5.out.size; omega))
      clear hp7 hl7 hm7 hf7 x0 x1 x2 x3 x4
      go_wp2_with fail
      refine (crash_any F7 d D6 none 0 0 [] w7 LW7.out.disk LW7.out.ok (RdO.nil _ _ _) (by omega)).mono ?_
      rintro e w8 ⟨L8, hL8, hp8⟩
      obtain ⟨rfl, F8, hl8, hm8, hf8⟩ := LW7.out.step hp8 (crashD_ok LW7.out.ok [] L8)
      have LW8 := Lib.hid hl8
      have HB8 := Lib.hid (HB7.out.mod hm8 hn7)
      have HK8 := Lib.hid (HK7.out w8 hm8)
      have HLD := Lib.hid (HPL6.out L8).2
      obtain ⟨D8, hD8⟩ : ∃ D8, crashD D6 [] L8 = D8 := ⟨_, rfl⟩
      rw [hD8] at LW8 HLD
      clear hp8 hl8 hm8 hf8 hL8 hD8
      go_wp2_with fail
      refine (loadC_any F8 d D8 w8 LW8.out.disk LW8.out.ok).mono ?_
      intro e w9 hp9
      unfold LoPost at hp9
      rw [HLD.out] at hp9
      obtain ⟨y, hyv, rfl, hyk, _, hm9⟩ := hp9
      obtain ⟨Y, hY⟩ : ∃ Y, y = Y := ⟨_, rfl⟩
      rw [hY] at hyk hyv
      have HYK := Lib.hid hyk
      have HYV := Lib.hid hyv
      have LW9 := Lib.hid (LW8.out.mod0 hm9)
      have HK9 := Lib.hid (HK8.out.mod0 hm9)
      obtain ⟨yg, yn, yl, ys, yA, yc, yms⟩ := y
      obtain ⟨yk, hykk⟩ : ∃ yk, yms.length = yk := ⟨_, rfl⟩
      have hYval : Y.val = .agg #[.int .i64 yg, .int .i64 yn, .int .i64 yl, .int .i64 ys, .slice yA yk yc] := by rw [← hY]; unfold Vw.val; simp only; rw [hykk]
      have HYE := Lib.hid hYval
      have hly : Y.ms.length ≤ 4096 := by
        have h1 := (encV_len (loadV_check HLD.out)).2
        rw [← hyv] at h1
        simpa [Vw.v] using h1
      have hty : ∀ W, Mod Non w9 W → Calls Tryz.prog 15 #[.agg #[.int .i64 yg, .int .i64 yn, .int .i64 yl, .int .i64 ys, .slice yA yk yc]] W fun e w' => ∃ Z : Vw, Z.v = v ∧ e = .returned Z.val ∧ VwOk w' Z ∧ Mod Non W w' := fun W hW => by
        have := theirs_any Y W (HYK.out.mod0 hW) (by omega)
        rw [HYE.out] at this
        exact this.mono fun e w' ⟨A', c', he, hk', _, hm'⟩ => ⟨⟨Y.gen, Y.next, Y.log, Y.seq, A', c', Y.ms⟩, HYV.out, he, hk', hm'⟩
      have htx : ∀ W, Mod Non w9 W → Calls Tryz.prog 15 #[.agg #[.int .i64 xg, .int .i64 xn, .int .i64 xl, .int .i64 xs, .slice xA xk xc]] W fun e w' => ∃ Z : Vw, Z.v = v ∧ e = .returned Z.val ∧ VwOk w' Z ∧ Mod Non W w' := fun W hW => by
        have := theirs_any X W (HK9.out.mod0 hW) (by have := HXL.out; omega)
        rw [HXE.out] at this
        exact this.mono fun e w' ⟨A', c', he, hk', _, hm'⟩ => ⟨⟨X.gen, X.next, X.log, X.seq, A', c', X.ms⟩, HXV.out, he, hk', hm'⟩
      have HTY := Lib.hid hty
      have HTX := Lib.hid htx
      unfold Vw.val
      simp only
      rw [hykk]
      obtain ⟨w10, hw10⟩ : ∃ w10, w9.alloc (.cells #[.int .i64 yg, .int .i64 yn, .int .i64 yl, .int .i64 ys, .slice yA yk yc] 34) = w10 := ⟨_, rfl⟩
      have hm10 : Mod Non w9 w10 := by rw [← hw10]; exact (Mod.refl _ _).alloc _
      have HBY : Hid (Blk w10 w9.heap.size 34 #[.int .i64 yg, .int .i64 yn, .int .i64 yl, .int .i64 ys, .slice yA yk yc]) := by { show Blk _ _ _ _; rw [← hw10]; exact Blk.new _ _ _ }
      have HBX7 := Lib.hid ((HB8.out.mod hm9 fun h => h).mod hm10 fun h => h)
      have HM10 := Lib.hid hm10
      have LW10 := Lib.hid (LW9.out.mod0 hm10)
      have HW10 := Lib.hid hw10
      have hsx : w4.heap.size < w9.heap.size := (HB8.out.mod hm9 fun h => h).lt
      have hB : ∀ W, Mod Non w10 W → (W.cell? ⟨w9.heap.size, 0, none⟩ = some (.int .i64 yg) ∧ W.cell? ⟨w9.heap.size, 1, none⟩ = some (.int .i64 yn) ∧ W.cell? ⟨w9.heap.size, 2, none⟩ = some (.int .i64 yl) ∧ W.cell? ⟨w9.heap.size, 3, none⟩ = some (.int .i64 ys) ∧ W.cell? ⟨w9.heap.size, 4, none⟩ = some (.slice yA yk yc)) ∧ W.cell? ⟨w4.heap.size, 0, none⟩ = some (.int .i64 xg) ∧ W.cell? ⟨w4.heap.size, 1, none⟩ = some (.int .i64 xn) ∧ W.cell? ⟨w4.heap.size, 2, none⟩ = some (.int .i64 xl) ∧ W.cell? ⟨w4.heap.size, 3, none⟩ = some (.int .i64 xs) ∧ W.cell? ⟨w4.heap.size, 4, none⟩ = some (.slice xA xk xc) := fun W hW =>
        ⟨⟨(HBY.out.mod hW fun h => h).cell 0, (HBY.out.mod hW fun h => h).cell 1, (HBY.out.mod hW fun h => h).cell 2, (HBY.out.mod hW fun h => h).cell 3, (HBY.out.mod hW fun h => h).cell 4⟩, (HBX7.out.mod hW fun h => h).cell 0, (HBX7.out.mod hW fun h => h).cell 1, (HBX7.out.mod hW fun h => h).cell 2, (HBX7.out.mod hW fun h => h).cell 3, (HBX7.out.mod hW fun h => h).cell 4⟩
      have HBB7 := Lib.hid hB
      obtain ⟨⟨y0, y1, y2, y3, y4⟩, z0, z1, z2, z3, z4⟩ := hB w10 (Mod.refl _ _)
      clear hm9 hyv hyk hY hYval hty htx hykk hm10 hw10 hB hly
      go_wp2_with fail
      rw [HW10.out]
      go_region_held3 (fun W => (W.cell? ⟨w9.heap.size, 0, none⟩ = some (.int .i64 yg) ∧ W.cell? ⟨w9.heap.size, 1, none⟩ = some (.int .i64 yn) ∧ W.cell? ⟨w9.heap.size, 2, none⟩ = some (.int .i64 yl) ∧ W.cell? ⟨w9.heap.size, 3, none⟩ = some (.int .i64 ys) ∧ W.cell? ⟨w9.heap.size, 4, none⟩ = some (.slice yA yk yc)) ∧ W.cell? ⟨w4.heap.size, 0, none⟩ = some (.int .i64 xg) ∧ W.cell? ⟨w4.heap.size, 1, none⟩ = some (.int .i64 xn) ∧ W.cell? ⟨w4.heap.size, 2, none⟩ = some (.int .i64 xl) ∧ W.cell? ⟨w4.heap.size, 3, none⟩ = some (.int .i64 xs) ∧ W.cell? ⟨w4.heap.size, 4, none⟩ = some (.slice xA xk xc))
        (first | go_keep)
        (first
          | (go_at_call 15
             (with_reducible refine (HTX.out _ (HM10.out.drew)).mono ?_)
             rintro e w18 ⟨Z18, hZV18, rfl, hZk18, hm18⟩
             have HZV18 := Lib.hid hZV18
             have HZK18 := Lib.hid hZk18
             have HM18 := Lib.hid (((Mod.refl Non w10).drew).trans0 hm18)
             have LW18 := Lib.hid (LW10.out.mod0 HM18.out)
             obtain ⟨⟨y01, y11, y21, y31, y41⟩, z05, z15, z25, z35, z45⟩ := HBB7.out w18 HM18.out
             clear hZV18 hZk18 hm18)
          | (go_at_call 15
             (with_reducible refine (HTY.out w18 (HM10.out.trans0 HM18.out)).mono ?_)
             rintro e w19 ⟨Z19, hZV19, rfl, hZk19, hm19⟩
             have HZV19 := Lib.hid hZV19
             have HZK19 := Lib.hid hZk19
             have HZK18' := Lib.hid (HZK18.out.mod0 hm19)
             have HM19 := Lib.hid (HM18.out.trans0 hm19)
             have LW19 := Lib.hid (LW10.out.mod0 HM19.out)
             obtain ⟨⟨y02, y12, y22, y32, y42⟩, z06, z16, z26, z36, z46⟩ := HBB7.out w19 HM19.out
             clear hZV19 hZk19 hm19)
          | (go_at_call 14
             refine (sameVs_any Z18 Z19 w19 HZK18'.out HZK19.out).mono ?_
             rw [HZV18.out, HZV19.out, decide_eq_true rfl]
             rintro e w20 ⟨rfl, hm20⟩
             have HM20 := Lib.hid (HM19.out.trans0 hm20)
             have LW20 := Lib.hid (LW10.out.mod0 HM20.out)
             obtain ⟨⟨y03, y13, y23, y33, y43⟩, z07, z17, z27, z37, z47⟩ := HBB7.out w20 HM20.out
             clear hm20)
          | fail)
      all_goals
        go_wp2_with fail
        go_ret
        exact ⟨rfl, LW20.out.mod⟩

end Go.Proofs.YtdpjnpjmokncdaaGreatDoor
