/- sawyerlaw11.CatCleans: the walk. -/
import Derived.Test.YtdpjnpjmokncdaaGreatDoorLoadWM
import Derived.Test.YtdpjnpjmokncdaaGreatDoorB39
import Derived.Test.YtdpjnpjmokncdaaGreatDoorB30
import Derived.Test.YtdpjnpjmokncdaaGreatDoorDumpOM
namespace Go.Proofs.YtdpjnpjmokncdaaGreatDoor
open Go.RowKit

theorem loadP_calm' {cap : Int} {xs : List Fw} {D : Dk} (h : loadP cap xs = some D) : Calm D := by
  unfold loadP at h
  cases hg : loadG (newD cap) xs with
  | none => rw [hg] at h; cases h
  | some E =>
    rw [hg] at h
    simp only at h
    split at h
    · cases h
    · cases h
      have := loadG_ok (LdOk.start cap) hg
      exact ⟨this.off, this.left⟩
theorem names_iff {D : Dk} (ok : DkOk D) (k : ByteArray) : k ∈ D.files.map (·.name) ↔ (findF D.files k).isSome = true := by
  rw [← namesD_mem ok.nd, (namesD_perm D ok.nd).mem_iff]
theorem clean_count {D : Dk} (c : Calm D) (ok : DkOk D) {v : Vs} (hv : checkV v = true) {K : List Fl} (hK : SortedOf D.files K) : (K.filter fun f => !cleanSo v f.name).length = (cleanD D v).1.files.length := by
  obtain ⟨_, _, hf⟩ := cleanD_calm c ok hv
  have ok1 := cleanD_ok ok v
  have hp : ((cleanD D v).1.files.map (·.name)).Perm ((K.filter fun f => !cleanSo v f.name).map (·.name)) := by
    refine (List.perm_ext_iff_of_nodup ok1.nd (sorted_nodup (hK.sort.filter _))).2 fun k => ?_
    rw [names_iff ok1, hf]
    have hD : (findF D.files k).isSome = true ↔ k ∈ K.map (·.name) := by rw [← names_iff ok, (hK.perm.map (·.name)).mem_iff]
    rw [List.mem_map]
    by_cases hs : cleanSo v k = true
    · rw [if_pos hs]
      constructor
      · intro h; cases h
      · rintro ⟨f, hf2, rfl⟩
        have := (List.mem_filter.1 hf2).2
        rw [hs] at this
        cases this
    · rw [if_neg hs, hD, List.mem_map]
      constructor
      · rintro ⟨f, h1, rfl⟩
        exact ⟨f, List.mem_filter.2 ⟨h1, by simpa using hs⟩, rfl⟩
      · rintro ⟨f, h1, rfl⟩
        exact ⟨f, (List.mem_filter.1 h1).1, rfl⟩
  have := hp.length_eq
  simp only [List.length_map] at this
  exact this.symm
theorem clean_again {D : Dk} (c : Calm D) (ok : DkOk D) {v : Vs} (hv : checkV v = true) :
    (cleanD (cleanD D v).1 v).2 = 0 ∧ (cleanD (cleanD D v).1 v).1.files.length = (cleanD D v).1.files.length ∧ findF (cleanD (cleanD D v).1 v).1.files shadN = none := by
  obtain ⟨_, c1, hf⟩ := cleanD_calm c ok hv
  have ok1 := cleanD_ok ok v
  obtain ⟨z, _, hf2⟩ := cleanD_calm c1 ok1 hv
  have ok2 := cleanD_ok ok1 v
  refine ⟨z, ?_, by rw [hf2, cleanSo_shad]; rfl⟩
  have hp : ((cleanD (cleanD D v).1 v).1.files.map (·.name)).Perm ((cleanD D v).1.files.map (·.name)) := by
    refine (List.perm_ext_iff_of_nodup ok2.nd ok1.nd).2 fun k => ?_
    rw [names_iff ok2, names_iff ok1, hf2]
    split
    · rename_i hs
      rw [hf, if_pos hs]
    · rfl
  have := hp.length_eq
  simpa using this
theorem clean_gone_name {v : Vs} {nm : ByteArray} (h : cleanSo v nm = true) : nm.size = 17 ∨ nm = shadN := by
  unfold cleanSo at h
  split at h
  · rename_i n hn
    exact .inl (numF_size hn)
  · split at h
    · rename_i n hn
      exact .inl (numF_size hn)
    · rw [Bool.or_eq_true] at h
      rcases h with h | h
      · exact .inr (of_decide_eq_true h)
      · split at h
        · rename_i n hn
          exact .inl (numF_size hn)
        · cases h
theorem clean_not_table {v : Vs} (hv : checkV v = true) {m : Mt} (hm : m ∈ v.tables) {nm : ByteArray} (h : cleanSo v nm = true) : nm ≠ foldN tabP m.num := by
  rintro rfl
  have hr : 0 ≤ m.num ∧ m.num ≤ 1099511627776 := by
    unfold checkV at hv
    rw [Bool.and_eq_true] at hv
    have := tabsAll_right hv.2 m hm
    unfold mtRight at this
    rw [Bool.and_eq_true] at this
    exact inN_iff.1 this.1
  unfold cleanSo at h
  rw [fold_other (p := tabP) (q := manP) (by decide) rfl rfl hr, numF_name hr] at h
  simp only [Bool.not_eq_true', List.any_eq_false, decide_eq_true_eq] at h
  exact h m hm rfl
theorem VwOk.mine {w wc w3 : World} {F : Nat → Prop} {x : Vw} {A' : Option Addr} {c' : Nat} (h0 : VwOk w x) (h : VwOk w3 ⟨x.gen, x.next, x.log, x.seq, A', c', x.ms⟩) (hA : ∀ b, blkOf A' = some b → wc.heap.size ≤ b) (hF : ∀ k, F k → w.heap.size ≤ k ∧ k < wc.heap.size) :
    ∀ W, Mod F w3 W → VwOk W ⟨x.gen, x.next, x.log, x.seq, A', c', x.ms⟩ := fun W hW => by
  have key : ∀ {A : Option Addr} {n : Nat} {vs : List Value}, Rd w A n vs → 0 < n → Off F A := fun hr hn b hb hf => by
    obtain ⟨b', hb', hl⟩ := hr.lt hn
    rw [hb] at hb'
    cases hb'
    have := (hF b hf).1
    omega
  refine ⟨h.row.mod hW fun _ b hb hf => ?_, h.nc, h.cm, fun m hm => ⟨(h.ok m hm).a.mod hW (key (h0.ok m hm).a), (h.ok m hm).b.mod hW (key (h0.ok m hm).b), (h.ok m hm).a1, (h.ok m hm).b1⟩⟩
  have h1 := hA b hb
  have h2 := (hF b hf).2
  omega

set_option maxRecDepth 100000 in
set_option maxHeartbeats 8000000 in
theorem cleans_walk (A : Option Addr) (n c : Nat) (fs : List Fw) (x0 : Vw) (w : World) (hL : Lay w) (hE : Errs w) (hx : Rd w A (n * 3) (flatW fs)) (hb : ∀ x ∈ fs, Rd w x.A x.bytes.length (by8 x.bytes)) (hz : ∀ x ∈ fs, x.name.size ≤ 140737488351232) (hc : costW fs ≤ 1099511627776) (hn : n ≤ 100000000000)
    (ho : VwOk w x0) :
    Calls Tryz.prog 6 #[.slice A n c, x0.val] w fun e w' => e = .returned (.bool true) ∧ Mod Non w w' := by
  have HL := Lib.hid hL
  have HE := Lib.hid hE
  have HO := Lib.hid ho
  have hboth : ∀ W, Mod Non w W → Calls Tryz.prog 21 #[.int .i64 1099511627776, .slice A n c] W (BoPost (loadP 1099511627776 fs) W) := fun W hW =>
    both_any 1099511627776 A n c fs W (HL.out.mod0 hW) (by omega) (by omega) (hx.mod0 hW) (fun x hx' => (hb x hx').mod0 hW) hz hc hn
  have HBO := Lib.hid hboth
  obtain ⟨X0, hX0⟩ : ∃ X, x0 = X := ⟨_, rfl⟩
  rw [hX0] at HO
  obtain ⟨v0, v1, v2, v3, VA, vc, vms⟩ := x0
  obtain ⟨vq, hvq⟩ : ∃ q, vms.length = q := ⟨_, rfl⟩
  have hV0 : X0.val = .agg #[.int .i64 v0, .int .i64 v1, .int .i64 v2, .int .i64 v3, .slice VA vq vc] := by rw [← hX0]; unfold Vw.val; simp only; rw [hvq]
  have hVq : X0.ms.length = vq := by rw [← hX0]; exact hvq
  have hVA : X0.A = VA := by rw [← hX0]
  have HV := Lib.hid hV0
  have HVQ := Lib.hid hVq
  have HVA := Lib.hid hVA
  unfold Vw.val
  simp only
  rw [hvq]
  obtain ⟨W0, hW0⟩ : ∃ W0, w.alloc (.cells #[.int .i64 v0, .int .i64 v1, .int .i64 v2, .int .i64 v3, .slice VA vq vc] 30) = W0 := ⟨_, rfl⟩
  have hbv : ∀ W, Mod Non W0 W → W.cell? ⟨w.heap.size, 0, none⟩ = some (.int .i64 v0) ∧ W.cell? ⟨w.heap.size, 1, none⟩ = some (.int .i64 v1) ∧ W.cell? ⟨w.heap.size, 2, none⟩ = some (.int .i64 v2) ∧ W.cell? ⟨w.heap.size, 3, none⟩ = some (.int .i64 v3) ∧ W.cell? ⟨w.heap.size, 4, none⟩ = some (.slice VA vq vc) := fun W hW => by
    have h1 : Blk W w.heap.size 30 #[.int .i64 v0, .int .i64 v1, .int .i64 v2, .int .i64 v3, .slice VA vq vc] := by
      have := Blk.new w 30 #[.int .i64 v0, .int .i64 v1, .int .i64 v2, .int .i64 v3, .slice VA vq vc]
      rw [hW0] at this
      exact this.mod hW fun h => h
    exact ⟨h1.cell 0, h1.cell 1, h1.cell 2, h1.cell 3, h1.cell 4⟩
  have HBV := Lib.hid hbv
  have HMS : Hid (Mod Non w W0) := by { show Mod Non w W0; rw [← hW0]; exact (Mod.refl _ _).alloc _ }
  have hs0 : w.heap.size < W0.heap.size := by rw [← hW0]; simp
  have HW0 := Lib.hid hW0
  clear hL hE ho hboth hx hb hz hX0 hvq hV0 hVq hVA hbv hW0
  go_enter Tryz.func6, Tryz.ntmps6
  go_wp2_with fail
  rw [HW0.out]
  refine (awakeC_any W0 (HL.out.mod0 HMS.out) (HE.out.mod0 HMS.out)).mono ?_
  rintro e w1 ⟨rfl, hm1⟩
  have HM1 := Lib.hid hm1
  clear hm1
  go_wp2_with fail
  refine (HBO.out w1 (HMS.out.trans0 HM1.out)).mono ?_
  intro e w2 hp2
  unfold BoPost at hp2
  cases hld : loadP 1099511627776 fs with
  | none =>
    rw [hld] at hp2
    obtain ⟨rfl, hm2⟩ := hp2
    have HM2 := Lib.hid ((HMS.out.trans0 HM1.out).trans0 hm2)
    clear hm2 hld
    go_wp2_with fail
    go_ret
    exact ⟨rfl, HM2.out⟩
  | some D =>
    rw [hld] at hp2
    obtain ⟨d, F, r, E, rfl, hd2, _, hm2, hF2, _⟩ := hp2
    have HCAL := Lib.hid (loadP_calm' hld)
    have LW2 : Hid (Lw W0 d F D w2) := ⟨hd2, loadP_ok hld (by omega) (by omega), HM1.out.trans0 hm2, fun k hk => Nat.le_trans HM1.out.size (hF2 k hk).1⟩
    have HML : Hid (∀ W, Mod Non W0 W → Mod Non w W) := fun W hW => HMS.out.trans0 hW
    obtain ⟨a0, a1, a2, a3, a4⟩ := HBV.out w2 LW2.out.mod
    clear hd2 hm2 hF2 hld
    by_cases hv100 : 100 < vq
    · have hd : decide (100 < (vq : Int)) = true := decide_eq_true (by omega)
      go_wp2_with fail
      go_ret
      exact ⟨rfl, HML.out _ LW2.out.mod⟩
    have hd : decide (100 < (vq : Int)) = false := decide_eq_false (by omega)
    have hmv : ∀ W, Mod Non W0 W → Calls Tryz.prog 12 #[.agg #[.int .i64 v0, .int .i64 v1, .int .i64 v2, .int .i64 v3, .slice VA vq vc]] W fun e w' => ∃ (A' : Option Addr) (c' : Nat), e = .returned (.agg #[.int .i64 X0.gen, .int .i64 X0.next, .int .i64 X0.log, .int .i64 X0.seq, .slice A' vq c']) ∧ VwOk w' ⟨X0.gen, X0.next, X0.log, X0.seq, A', c', X0.ms⟩ ∧ (∀ b, blkOf A' = some b → W.heap.size ≤ b) ∧ Mod Non W w' := fun W hW => by
      have := mine_any X0 W ((HO.out.mod0 HMS.out).mod0 hW) (by rw [HVQ.out]; omega)
      rw [HV.out] at this
      exact this.mono fun e w' ⟨A', c', he, hk', hA', hm'⟩ => ⟨A', c', by rw [he]; unfold Vw.val; simp only; rw [HVQ.out], hk', hA', hm'⟩
    have HMV := Lib.hid hmv
    have hv1 : vq ≤ 100 := by omega
    clear hmv hv100
    go_wp2_with fail
    refine (HMV.out w2 LW2.out.mod).mono ?_
    rintro e w3 ⟨A3, c3, rfl, hk3, hA3, hm3⟩
    have LW3 := Lib.hid (LW2.out.mod0 hm3)
    have hck := check_any ⟨X0.gen, X0.next, X0.log, X0.seq, A3, c3, X0.ms⟩ w3 hk3
    have hv3 : Vw.v ⟨X0.gen, X0.next, X0.log, X0.seq, A3, c3, X0.ms⟩ = X0.v := rfl
    rw [hv3] at hck
    unfold Vw.val at hck
    simp only at hck
    rw [HVQ.out] at hck
    have HCK := Lib.hid hck
    clear hk3 hA3 hm3 hck hv3 a0 a1 a2 a3 a4
    by_cases hcv : checkV X0.v = true
    · rw [if_pos hcv] at HCK
      have HCV := Lib.hid hcv
      clear hcv
      go_wp2_with fail
      refine HCK.out.mono ?_
      rintro e w4 ⟨rfl, hm4⟩
      have LW4 := Lib.hid (LW3.out.mod0 hm4)
      clear hm4
      go_wp2_with fail
      refine (dump_own F d D w4 LW4.out.disk LW4.out.ok LW4.out.ok.nd).mono ?_
      rintro e w5 ⟨B, q, qc, ys, rfl, hso, hrd, hqc, hqm, hBb, hm5⟩
      have LW5 := Lib.hid (LW4.out.mod0 hm5)
      have HSO := Lib.hid hso
      have hqn : (ys.map (·.f)).length = q := by have := hrd.1.1; rw [flat3_len] at this; rw [List.length_map]; omega
      have HQN := Lib.hid hqn
      have hqsz : q ≤ 100000000000 := by
        have h1 := hso.perm.length_eq
        have h2 := files_len LW4.out.ok
        omega
      have HRD := Lib.hid hrd.1
      have HBB : Hid (∀ k, F k → k < w4.heap.size) := LW4.out.lt
      have HBb := Lib.hid hBb
      obtain ⟨a0, a1, a2, a3, a4⟩ := HBV.out w5 LW5.out.mod
      clear hso hrd hm5 hqn hBb
      go_wp2_with fail
      refine (HMV.out w5 LW5.out.mod).mono ?_
      rintro e w6 ⟨A6, c6, rfl, hk6, hA6, hm6⟩
      have LW6 := Lib.hid (LW5.out.mod0 hm6)
      have HM56 := Lib.hid hm6
      have hcln := clean_any F d D ⟨X0.gen, X0.next, X0.log, X0.seq, A6, c6, X0.ms⟩ w6 LW6.out.disk LW6.out.ok (VwOk.mine (wc := w5) (HO.out.mod0 HMS.out) hk6 hA6 fun k hk => ⟨LW5.out.far k hk, LW5.out.lt k hk⟩) (LW6.out.errs (HE.out.mod0 HMS.out))
      have hv6 : Vw.v ⟨X0.gen, X0.next, X0.log, X0.seq, A6, c6, X0.ms⟩ = X0.v := rfl
      rw [hv6] at hcln
      obtain ⟨⟨D7, E7⟩, hP7⟩ : ∃ P, cleanD D X0.v = P := ⟨_, rfl⟩
      have hcc := cleanD_calm HCAL.out LW5.out.ok HCV.out
      have hcnt := clean_count HCAL.out LW5.out.ok HCV.out HSO.out
      have hag := clean_again HCAL.out LW5.out.ok HCV.out
      have hok7 := cleanD_ok LW5.out.ok X0.v
      rw [hP7] at hcln hcc hcnt hag hok7
      obtain ⟨rfl, hcal7, hf7⟩ := hcc
      unfold Vw.val at hcln
      simp only at hcln
      rw [HVQ.out] at hcln
      have HCLN := Lib.hid hcln
      have HF7 := Lib.hid hf7
      have HCNT := Lib.hid hcnt
      have HAG := Lib.hid hag
      have HOK7 := Lib.hid hok7
      clear hk6 hA6 hm6 hcln hv6 hP7 hcal7 hf7 hcnt hag hok7 a0 a1 a2 a3 a4
      go_wp2_with fail
      refine HCLN.out.mono ?_
      intro e w7 hp7
      obtain ⟨rfl, F7, hl7, hm7, hf7⟩ := LW6.out.step hp7 HOK7.out
      have LW7 := Lib.hid hl7
      have HRD7 : Hid (Rd w7 B (q * 3) (flat3 ys)) := ((HRD.out.mod0 HM56.out).mod hm7 fun _ b hb hf => by
        have h1 := HBb.out b hb
        have h2 := HBB.out b hf
        omega)
      clear hp7 hl7 hm7 hf7
      go_wp2_with fail
      go_loopw [9, 10] (fun z i wr => ∃ (k cn : Nat), k ≤ q ∧ cn ≤ k ∧ i = .int .i64 k ∧ z = .int .i64 cn ∧ Hid (Mod Non w7 wr) ∧ Hid ((((ys.map (·.f)).take k).filter fun f => !cleanSo X0.v f.name).length = cn)) (fun _ i _ => q - (intOf i).toNat)
      case atStart => exact ⟨0, 0, Nat.zero_le _, Nat.le_refl _, rfl, rfl, Mod.refl _ _, rfl⟩
      case round =>
        obtain ⟨k, cn, hk, hcn, rfl, rfl, HM, HN⟩ := hrel
        have LWr := Lib.hid (LW7.out.mod0 HM.out)
        by_cases hlt : k < q
        · obtain ⟨b, o, y, rfl, hy, g0, g1, g2⟩ := (HRD7.out.mod0 HM.out).file hlt
          have i1 : (0 : Int) ≤ (k : Int) := by omega
          have i2 : (k : Int) < (q : Int) := by omega
          have hyf : (ys.map (·.f))[k]? = some y.f := by rw [List.getElem?_map, hy]; rfl
          have hsn : ((ys.map (·.f)).take (k + 1)) = ((ys.map (·.f)).take k) ++ [y.f] := take_snoc' _ k _ hyf
          have hyd : (findF D.files y.f.name).isSome = true := by
            rw [← names_iff LW5.out.ok, ← (HSO.out.perm.map (·.name)).mem_iff]
            exact List.mem_map.2 ⟨y.f, List.mem_of_getElem? hyf, rfl⟩
          have hnsz : y.f.name.size ≤ 100 := by
            obtain ⟨f, hf⟩ := Option.isSome_iff_exists.1 hyd
            rw [← find_name hf]
            exact named_size (LW5.out.ok.nm f (findF_mem hf))
          have hh := HF7.out y.f.name
          have HSN := Lib.hid hsn
          have HYD := Lib.hid hyd
          obtain ⟨⟨nm, ysf, yb⟩, yA, yc⟩ := y
          simp only at g0 hh hnsz HYD HSN
          clear hy hyf hsn hyd g1 g2
          cases hso : cleanSo X0.v nm with
          | false =>
            have HH : Hid ((findF D7.files nm).isSome = true) := by { show _ = true; rw [hh, hso]; exact HYD.out }
            have HCNT2 : Hid ((((ys.map (·.f)).take (k + 1)).filter fun f => !cleanSo X0.v f.name).length = cn + 1) := by
              show _ = _
              rw [HSN.out, List.filter_append, List.length_append, HN.out]
              simp [hso]
            clear hh hso
            go_wp2_with (first
              | (go_at_call 24
                 refine (has_any nm F7 d D7 wr LWr.out.disk).mono ?_
                 rw [HH.out]
                 rintro e w8 ⟨rfl, hm8⟩
                 have HM8 := Lib.hid (HM.out.trans0 hm8)
                 clear hm8)
              | fail)
            go_roundw
            case rel => exact ⟨k + 1, cn + 1, by omega, by omega, by go_num, by go_num, HM8.out, HCNT2.out⟩
            case measure => simp [intOf]; omega
          | true =>
            have HH : Hid ((findF D7.files nm).isSome = false) := by { show _ = false; rw [hh, hso]; rfl }
            have HCNT2 : Hid ((((ys.map (·.f)).take (k + 1)).filter fun f => !cleanSo X0.v f.name).length = cn) := by
              show _ = _
              rw [HSN.out, List.filter_append, List.length_append, HN.out]
              simp [hso]
            have hgn := clean_gone_name hso
            have HTB : Hid (∀ m ∈ X0.v.tables, nm ≠ foldN tabP m.num) := fun m hm => clean_not_table HCV.out hm hso
            clear hh hso
            have hor : nm.size = 17 ∨ (nm.size ≠ 17 ∧ nm.toList = [99, 117, 114, 126]) := by
              rcases hgn with h | h
              · exact .inl h
              · exact .inr ⟨by rw [h]; decide, by rw [h, shad_list]⟩
            clear hgn
            have hinner : True := trivial
            rcases hor with h17 | ⟨h17, hsh⟩
            · have hd17 : ((nm.size : Int) == 17) = true := by simp; omega
              have hd17' : decide ((nm.size : Int) = 17) = true := decide_eq_true (by omega)
              go_wp2_with (first
                | (go_at_call 24
                   refine (has_any nm F7 d D7 wr LWr.out.disk).mono ?_
                   rw [HH.out]
                   rintro e w8 ⟨rfl, hm8⟩
                   have HM8 := Lib.hid (HM.out.trans0 hm8)
                   clear hm8)
                | fail)
              have hs78 : w7.heap.size ≤ w8.heap.size := HM8.out.size
              go_loopw [12] (fun j wr2 => ∃ k2 : Nat, k2 ≤ vq ∧ j = .int .i64 k2 ∧ Hid (Mod Non w7 wr2)) (fun j _ => vq - (intOf j).toNat)
              case atStart => exact ⟨0, Nat.zero_le _, rfl, HM8.out⟩
              case round =>
                obtain ⟨k2, hk2, rfl, HM2⟩ := hrel
                have LW2r := Lib.hid (LW7.out.mod0 HM2.out)
                obtain ⟨a0, a1, a2, a3, a4⟩ := HBV.out _ LW2r.out.mod
                by_cases hlt2 : k2 < vq
                · obtain ⟨bb, oo, m, hbA, hm, m0, _, _, _, _⟩ := (((HO.out.mod0 HMS.out).mod0 LW2r.out.mod).row).mw rfl (i := k2) (by rw [HVQ.out]; exact hlt2)
                  rw [HVA.out] at hbA
                  subst hbA
                  have j1 : (0 : Int) ≤ (k2 : Int) := by omega
                  have j2 : (k2 : Int) < (vq : Int) := by omega
                  have hmt : m.m ∈ X0.v.tables := List.mem_map.2 ⟨m, List.mem_of_getElem? hm, rfl⟩
                  have hne := HTB.out m.m hmt
                  have hnb : (nm.toList == (foldN tabP m.m.num).toList) = false := by rw [beq_str]; exact decide_eq_false hne
                  obtain ⟨tn, htn⟩ : ∃ tn, foldN tabP m.m.num = tn := ⟨_, rfl⟩
                  rw [htn] at hnb
                  have HTN := Lib.hid htn
                  obtain ⟨num, hnum⟩ : ∃ x, m.m.num = x := ⟨_, rfl⟩
                  rw [hnum] at m0 HTN
                  clear hm hmt hne htn hnum
                  go_wp2_with (first
                    | (go_at_call 25
                       refine (table_any num _ LW2r.out.lay).mono ?_
                       rw [HTN.out]
                       rintro e w9 ⟨rfl, hm9⟩
                       have HM9 := Lib.hid (HM2.out.trans0 hm9)
                       clear hm9)
                    | fail)
                  go_roundw
                  case rel => exact ⟨k2 + 1, by omega, by go_num, HM9.out⟩
                  case measure => simp [intOf]; omega
                · obtain rfl : k2 = vq := by omega
                  go_wp2_with fail
                  go_roundw
                  case rel => exact ⟨k + 1, cn, by omega, by omega, by go_num, rfl, HM2.out, HCNT2.out⟩
                  case measure => simp [intOf]; omega
            · have hd17 : ((nm.size : Int) == 17) = false := by simp; omega
              have hd17' : decide ((nm.size : Int) = 17) = false := decide_eq_false (by omega)
              have hshb : (nm.toList == [99, 117, 114, 126]) = true := by simp [hsh]
              clear hsh
              go_wp2_with (first
                | (go_at_call 24
                   refine (has_any nm F7 d D7 wr LWr.out.disk).mono ?_
                   rw [HH.out]
                   rintro e w8 ⟨rfl, hm8⟩
                   have HM8 := Lib.hid (HM.out.trans0 hm8)
                   clear hm8)
                | fail)
              have hs78 : w7.heap.size ≤ w8.heap.size := HM8.out.size
              go_loopw [12] (fun j wr2 => ∃ k2 : Nat, k2 ≤ vq ∧ j = .int .i64 k2 ∧ Hid (Mod Non w7 wr2)) (fun j _ => vq - (intOf j).toNat)
              case atStart => exact ⟨0, Nat.zero_le _, rfl, HM8.out⟩
              case round =>
                obtain ⟨k2, hk2, rfl, HM2⟩ := hrel
                have LW2r := Lib.hid (LW7.out.mod0 HM2.out)
                obtain ⟨a0, a1, a2, a3, a4⟩ := HBV.out _ LW2r.out.mod
                by_cases hlt2 : k2 < vq
                · obtain ⟨bb, oo, m, hbA, hm, m0, _, _, _, _⟩ := (((HO.out.mod0 HMS.out).mod0 LW2r.out.mod).row).mw rfl (i := k2) (by rw [HVQ.out]; exact hlt2)
                  rw [HVA.out] at hbA
                  subst hbA
                  have j1 : (0 : Int) ≤ (k2 : Int) := by omega
                  have j2 : (k2 : Int) < (vq : Int) := by omega
                  have hmt : m.m ∈ X0.v.tables := List.mem_map.2 ⟨m, List.mem_of_getElem? hm, rfl⟩
                  have hne := HTB.out m.m hmt
                  have hnb : (nm.toList == (foldN tabP m.m.num).toList) = false := by rw [beq_str]; exact decide_eq_false hne
                  obtain ⟨tn, htn⟩ : ∃ tn, foldN tabP m.m.num = tn := ⟨_, rfl⟩
                  rw [htn] at hnb
                  have HTN := Lib.hid htn
                  obtain ⟨num, hnum⟩ : ∃ x, m.m.num = x := ⟨_, rfl⟩
                  rw [hnum] at m0 HTN
                  clear hm hmt hne htn hnum
                  go_wp2_with (first
                    | (go_at_call 25
                       refine (table_any num _ LW2r.out.lay).mono ?_
                       rw [HTN.out]
                       rintro e w9 ⟨rfl, hm9⟩
                       have HM9 := Lib.hid (HM2.out.trans0 hm9)
                       clear hm9)
                    | fail)
                  go_roundw
                  case rel => exact ⟨k2 + 1, by omega, by go_num, HM9.out⟩
                  case measure => simp [intOf]; omega
                · obtain rfl : k2 = vq := by omega
                  go_wp2_with fail
                  go_roundw
                  case rel => exact ⟨k + 1, cn, by omega, by omega, by go_num, rfl, HM2.out, HCNT2.out⟩
                  case measure => simp [intOf]; omega
        · obtain rfl : k = q := by omega
          have hcn2 : cn = D7.files.length := by
            rw [← HCNT.out, ← HN.out, List.take_of_length_le (by rw [HQN.out]; exact Nat.le_refl _)]
          have HCN2 := Lib.hid hcn2
          obtain ⟨a0, a1, a2, a3, a4⟩ := HBV.out wr LWr.out.mod
          clear hcn2
          go_wp2_with fail
          refine (names_any F7 d D7 wr LWr.out.disk LWr.out.ok).mono ?_
          rintro e w9 ⟨An, nn, ncp, Ln, rfl, hLn, hr9, hnn, hcn9, _, hb9⟩
          have hn9 : nn = cn := by
            have h1 : Ln.length = nn := by simpa using hr9.1
            rw [← h1, namesD_of hLn, namesD_len D7 LWr.out.ok.nd, HCN2.out]
          subst hn9
          have LW9 := Lib.hid (LWr.out.mod0 (Mod.of_below hb9))
          obtain ⟨b0, b1, b2, b3, b4⟩ := HBV.out w9 LW9.out.mod
          clear hLn hr9 hb9 a0 a1 a2 a3 a4
          go_wp2_with fail
          refine (HMV.out w9 LW9.out.mod).mono ?_
          rintro e w10 ⟨A10, c10, rfl, hk10, hA10, hm10⟩
          have LW10 := Lib.hid (LW9.out.mod0 hm10)
          have hcln := clean_any F7 d D7 ⟨X0.gen, X0.next, X0.log, X0.seq, A10, c10, X0.ms⟩ w10 LW10.out.disk LW10.out.ok (VwOk.mine (wc := w9) (HO.out.mod0 HMS.out) hk10 hA10 fun k hk => ⟨LW9.out.far k hk, LW9.out.lt k hk⟩) (LW10.out.errs (HE.out.mod0 HMS.out))
          have hv10 : Vw.v ⟨X0.gen, X0.next, X0.log, X0.seq, A10, c10, X0.ms⟩ = X0.v := rfl
          rw [hv10] at hcln
          obtain ⟨⟨D11, E11⟩, hP11⟩ : ∃ P, cleanD D7 X0.v = P := ⟨_, rfl⟩
          have hag := HAG.out
          have hok11 := cleanD_ok LW9.out.ok X0.v
          rw [hP11] at hcln hag hok11
          have h110 : E11 = 0 := hag.1
          subst h110
          unfold Vw.val at hcln
          simp only at hcln
          rw [HVQ.out] at hcln
          have HCLN2 := Lib.hid hcln
          have HAG2 := Lib.hid hag.2
          have HOK11 := Lib.hid hok11
          clear hk10 hA10 hm10 hcln hv10 hP11 hag hok11 b0 b1 b2 b3 b4
          go_wp2_with fail
          refine HCLN2.out.mono ?_
          intro e w11 hp11
          obtain ⟨rfl, F11, hl11, _, _⟩ := LW10.out.step hp11 HOK11.out
          have LW11 := Lib.hid hl11
          clear hp11 hl11
          go_wp2_with fail
          refine (names_any F11 d D11 w11 LW11.out.disk LW11.out.ok).mono ?_
          rintro e w12 ⟨An2, nn2, ncp2, Ln2, rfl, hLn2, hr12, hnn2, hcn12, _, hb12⟩
          have hn12 : nn2 = nn := by
            have h1 : Ln2.length = nn2 := by simpa using hr12.1
            rw [← h1, namesD_of hLn2, namesD_len D11 LW11.out.ok.nd, HAG2.out.1, HCN2.out]
          subst hn12
          have LW12 := Lib.hid (LW11.out.mod0 (Mod.of_below hb12))
          clear hLn2 hr12 hb12
          go_wp2_with fail
          refine (has_any shadN F11 d D11 w12 LW12.out.disk).mono ?_
          rw [HAG2.out.2]
          rintro e w13 ⟨rfl, hm13⟩
          have LW13 := Lib.hid (LW12.out.mod0 hm13)
          clear hm13
          go_wp2_with fail
          go_ret
          exact ⟨rfl, HML.out _ LW13.out.mod⟩
    · rw [if_neg hcv] at HCK
      clear hcv
      go_wp2_with fail
      refine HCK.out.mono ?_
      rintro e w4 ⟨rfl, hm4⟩
      have LW4 := Lib.hid (LW3.out.mod0 hm4)
      clear hm4
      go_wp2_with fail
      go_ret
      exact ⟨rfl, HML.out _ LW4.out.mod⟩

end Go.Proofs.YtdpjnpjmokncdaaGreatDoor
