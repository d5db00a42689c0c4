/- The program's disk: Dump, whose row is the call's own. -/
import Derived.Test.YtdpjnpjmokncdaaGreatDoorB29
namespace Go.Proofs.YtdpjnpjmokncdaaGreatDoor
open Go.RowKit

set_option maxRecDepth 100000 in
set_option maxHeartbeats 2000000 in
theorem dump_own (F : Nat → Prop) (d : Nat) (D : Dk) (w : World) (h : DiskIs w F d D) (ok : DkOk D) (nd : (D.files.map (·.name)).Nodup) :
    Calls Tryz.prog 23 #[.pointer (some ⟨d, 0, none⟩)] w fun e w' => ∃ A n c ys, e = .returned (.slice A n c) ∧ SortedOf D.files (ys.map (·.f)) ∧ RdF w' A n ys ∧ n ≤ c ∧ c ≤ 9223372036854775807 ∧ (∀ b, blkOf A = some b → w.heap.size ≤ b) ∧ Mod Non w w' := by
  have HH := Lib.hid h
  have HO := Lib.hid ok
  obtain ⟨K, hK⟩ := sorted_of D nd
  obtain ⟨G, m, kvs, hA, hFd, hFm, hGF, hFp, hFl⟩ := h
  have HA := Lib.hid hA
  have hdl := hA.blk.lt
  have HK := Lib.hid hK
  have hfl := files_len ok
  have hkl : K.length = D.files.length := hK.perm.length_eq
  have HND := Lib.hid nd
  clear hA ok hK nd
  go_enter Tryz.func23, Tryz.ntmps23
  go_wp2_with (first
    | (go_at_call 16; refine (names_any F d D _ HH.out HO.out).mono ?_; rintro e w1 ⟨An, nn, cn, L, rfl, hL, hr1, hnn, hcn, hbn, hb1⟩))
  have hLK := HK.out.names hL
  subst hLK
  have HM1 : Hid (Mod Non w w1) := Mod.of_below hb1
  have hll : K.length = nn := by simpa using hr1.1
  have HLL := Lib.hid hll
  have HR1 := Lib.hid hr1
  have hs1 := HM1.out.size
  have hn2 : nn ≤ 100000000000 := by omega
  have hsd : d < w1.heap.size := by omega
  have HD1 := Lib.hid (HA.out.mod0 HM1.out)
  clear hL hb1 hr1 hll hkl
  go_loopw [3, 10] (fun v i wr => ∃ (k : Nat) (ys : List Fc), k ≤ nn ∧ ys.length = k ∧ i = .int .i64 k ∧ wr.ownsRow w1.heap.size 58 3 v k (flat3 ys) ∧ Hid (DuM w1 K ys k v wr)) (fun _ i _ => nn - (intOf i).toNat)
  case atStart => exact ⟨0, [], Nat.zero_le _, rfl, rfl, World.ownsRow_nil _ _ _ _, ⟨Mod.refl _ _, by simp, by simp⟩⟩
  case round =>
    obtain ⟨k, ys, hk, hyk, rfl, hown, HP⟩ := hrel
    obtain ⟨Av, cv, rfl, hcv, hcv2⟩ := own_slice hown
    have hrw : w1.heap.size ≤ wr.heap.size := HP.out.mod.size
    have HOWN := Lib.hid hown
    have HYK := Lib.hid hyk
    have hrow := hown.lt
    clear hown hyk
    by_cases hlt : k < nn
    · have hrr := HR1.out.mod0 HP.out.mod
      obtain ⟨b, o, rfl, u, hu, hc⟩ := hrr.at_ hlt
      rw [List.getElem?_map, List.getElem?_map] at hu
      cases hx : K[k]? with
      | none => rw [hx] at hu; cases hu
      | some f =>
        rw [hx] at hu
        simp only [Option.map_some, Option.some.injEq] at hu
        subst hu
        have hfm : f ∈ D.files := HK.out.perm.mem_iff.1 (List.mem_of_getElem? hx)
        have hf : findF D.files f.name = some f := (find_iff HND.out).2 ⟨hfm, rfl⟩
        have HSN := Lib.hid (take_snoc' K k f hx)
        have HDr := Lib.hid (HD1.out.mod0 HP.out.mod)
        obtain ⟨Af, cf, hg, hrf, hcf1, hcf2, hfG, hfn⟩ := found HDr.out hf
        have hflen : f.bytes.length ≤ 1099511627776 := by
          have hc := find_cost hf
          have h1 := HO.out.us; have h2 := HO.out.u1; have h3 := HO.out.n1
          unfold costF at hc
          omega
        have hget : (lookKV kvs f.name).getD (.agg #[.string ⟨#[]⟩, .int .i64 0, .slice none 0 0]) = .agg #[.string f.name, .int .i64 (f.safe : Int), .slice Af f.bytes.length cf] := by
          unfold gotten at hg
          injection hg with hg
          have := congrArg (fun a : Array Value => a[0]?) hg
          simpa using this
        have HV := Lib.hid hget
        have HRF := Lib.hid hrf
        have d2 : wr.cell? ⟨d, 2, none⟩ = some (.map (some m)) := HDr.out.blk.cell 2
        have hdr : d < wr.heap.size := by omega
        clear hg hf hfn hrr hget hrf hx hfm
        obtain ⟨yn, ysf, yb⟩ := f
        simp only at hc hflen hcf1 HV HRF
        have i1 : (0 : Int) ≤ (k : Int) := by omega
        have i2 : (k : Int) < (nn : Int) := by omega
        go_wp2_with (first
          | (at_lookup; refine wpList_look _ rfl (.tmp 17) (.tmp 18) false rfl strKey HDr.out.map Tryz.underlying77 Tryz.underlying9 (zeroFile _) yn rfl rfl _ HV.out ?_))
        have hbox : Blk (wr.alloc (.cells #[.string yn, .int .i64 (ysf : Int), .slice Af yb.length cf] 58)) wr.heap.size 58 #[.string yn, .int .i64 (ysf : Int), .slice Af yb.length cf] := Blk.new _ _ _
        have hma : Mod Non wr (wr.alloc (.cells #[.string yn, .int .i64 (ysf : Int), .slice Af yb.length cf] 58)) := (Mod.refl Non wr).alloc _
        generalize wr.alloc (.cells #[.string yn, .int .i64 (ysf : Int), .slice Af yb.length cf] 58) = W0 at *
        have HBX := Lib.hid hbox
        have HMA := Lib.hid hma
        have b2 : W0.cell? ⟨wr.heap.size, 2, none⟩ = some (.slice Af yb.length cf) := hbox.cell 2
        have hs0 : wr.heap.size < W0.heap.size := hbox.lt
        clear hbox hma d2
        go_wp2_with fail
        refine (clone_any Af yb.length cf yb _ (HRF.out.mod0 HMA.out) (by omega)).mono ?_
        rintro e W2 ⟨pA, pc, rfl, pown, pb⟩
        have HM2 : Hid (Mod Non W0 W2) := Mod.of_below pb
        have hbx2 := HBX.out.mod HM2.out fun h => h
        have hs2 := HM2.out.size
        have POWN := Lib.hid pown
        have c0 : W2.cell? ⟨wr.heap.size, 2, none⟩ = some (.slice Af yb.length cf) := hbx2.cell 2
        have f2 := hbx2.frozen 2
        have hbx3 := hbx2.set_ 2 (.slice pA yb.length pc)
        have hm3 : Mod (fun k => k = wr.heap.size) W2 (W2.setCell ⟨wr.heap.size, 2, none⟩ (.slice pA yb.length pc)) := (Mod.refl _ _).set1 2 _
        have hz3 : (W2.setCell ⟨wr.heap.size, 2, none⟩ (.slice pA yb.length pc)).heap.size = W2.heap.size := by simp
        have e0 : (W2.setCell ⟨wr.heap.size, 2, none⟩ (.slice pA yb.length pc)).cell? ⟨wr.heap.size, 0, none⟩ = some (.string yn) := hbx3.cell 0
        have e1 : (W2.setCell ⟨wr.heap.size, 2, none⟩ (.slice pA yb.length pc)).cell? ⟨wr.heap.size, 1, none⟩ = some (.int .i64 (ysf : Int)) := hbx3.cell 1
        have e2 : (W2.setCell ⟨wr.heap.size, 2, none⟩ (.slice pA yb.length pc)).cell? ⟨wr.heap.size, 2, none⟩ = some (.slice pA yb.length pc) := hbx3.cell 2
        have HM3 := Lib.hid hm3
        have HOWN3 := Lib.hid (own_mod (own_mod (S := Non) HOWN.out (HMA.out.trans0 HM2.out) (fun _ _ h => h)) HM3.out (fun b hb e => by have := (hrow b hb).2; omega))
        have hone := one_file (W2.setCell ⟨wr.heap.size, 2, none⟩ (.slice pA yb.length pc)) 58 ⟨⟨yn, ysf, yb⟩, pA, pc⟩
        rw [hz3] at hone
        have HONE := Lib.hid hone
        clear b2 hbx2 pb pown hbx3 hm3 hone
        go_wp2_with (first
          | (at_builtin; refine wpList_appD _ rfl (.tmp 24) (.tmp 26) rfl w1.heap.size (.slice Av k cv) k ys rfl (HOWN3.out.alloc _) _ 1 1 [⟨⟨yn, ysf, yb⟩, pA, pc⟩] rfl HONE.out (by omega) (by simp; omega) ?_
             intro qA qc qw qhc qhcm qown qg qat))
        have hpo := own_base POWN.out
        have hplt := POWN.out.lt
        have MB : Mod Non wr ((W2.setCell ⟨wr.heap.size, 2, none⟩ (.slice pA yb.length pc)).alloc (.cells #[.string yn, .int .i64 (ysf : Int), .slice pA yb.length pc] 58)) := ((HMA.out.trans0 HM2.out).trans HM3.out fun k hk => .inr (by omega)).alloc _
        have hsz2 : ((W2.setCell ⟨wr.heap.size, 2, none⟩ (.slice pA yb.length pc)).alloc (.cells #[.string yn, .int .i64 (ysf : Int), .slice pA yb.length pc] 58)).heap.size = W2.heap.size + 1 := by simp
        have hpr := (((Rd.of_own POWN.out).mod HM3.out (fun _ g hg e => by have := hpo g hg; omega)).alloc (.cells #[.string yn, .int .i64 (ysf : Int), .slice pA yb.length pc] 58))
        clear e0 e1 e2
        generalize (W2.setCell ⟨wr.heap.size, 2, none⟩ (.slice pA yb.length pc)).alloc (.cells #[.string yn, .int .i64 (ysf : Int), .slice pA yb.length pc] 58) = W4 at *
        have MG : Mod (fun g => (Value.slice Av k cv).ownBlock = some g) W4 qw := Mod.of_grown qg fun _ h => h
        have MW : Mod Non w1 qw := (HP.out.mod.trans0 MB).trans MG fun g hg => .inr (hrow g hg).1
        have hnew : ∀ g, blkOf qA = some g → (Value.slice Av k cv).ownBlock = some g ∨ W4.heap.size ≤ g := fun g hg => by
          rcases qat with h | h
          · exact .inl (by rw [← h]; exact hg)
          · rw [h] at hg; cases hg; exact .inr (by omega)
        have hq2 := MG.size
        have hq3 := MB.size
        go_roundw
        case rel =>
          refine ⟨k + 1, ys ++ [⟨⟨yn, ysf, yb⟩, pA, pc⟩], by omega, by simp [HYK.out], by go_num, qown, ⟨MW, ?_, ?_⟩⟩
          · rw [HSN.out, List.map_append, HP.out.eq]; rfl
          · intro z hz
            rcases List.mem_append.1 hz with hz | hz
            · obtain ⟨a1, a2⟩ := HP.out.rd z hz
              refine ⟨(a1.mod0 MB).mod MG fun _ g hg e => (a2 g hg).2.2 e, fun g hg => ⟨(a2 g hg).1, by have := (a2 g hg).2.1; omega, fun e => ?_⟩⟩
              rcases hnew g (by rw [slice_blk] at e; exact e) with h | h
              · exact (a2 g hg).2.2 h
              · have := (a2 g hg).2.1; omega
            · simp only [List.mem_singleton] at hz
              subst hz
              refine ⟨hpr.mod MG fun _ g hg e => by have := hpo g hg; have := (hrow g e).2; omega, fun g hg => ⟨by have := hpo g hg; omega, by have := (hplt g (by rw [slice_blk]; exact hg)).2; omega, fun e => ?_⟩⟩
              rcases hnew g (by rw [slice_blk] at e; exact e) with h | h
              · have := hpo g hg; have := (hrow g h).2; omega
              · have := (hplt g (by rw [slice_blk]; exact hg)).2; omega
        case measure => simp [intOf]; omega
    · obtain rfl : k = nn := by omega
      go_wp2_with fail
      go_ret
      have heq := HP.out.eq
      rw [List.take_of_length_le (by rw [HLL.out]; omega)] at heq
      have hmx : maxLen = 9223372036854775807 := rfl
      exact ⟨Av, k, cv, ys, rfl, by rw [heq]; exact HK.out, ⟨Rd.of_own3 HOWN.out, fun y hy => (HP.out.rd y hy).1⟩, hcv, by omega, fun b hb => by have h1 := own_base HOWN.out b hb; have h2 := HM1.out.size; omega, HM1.out.trans0 HP.out.mod⟩

end Go.Proofs.YtdpjnpjmokncdaaGreatDoor
