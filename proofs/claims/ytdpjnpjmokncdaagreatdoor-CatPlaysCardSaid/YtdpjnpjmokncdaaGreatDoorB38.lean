/- cat.files. -/
import Derived.Test.YtdpjnpjmokncdaaGreatDoorB37
import Derived.Test.YtdpjnpjmokncdaaGreatDoorB09
import Derived.Deep.RegionHeld3
namespace Go.Proofs.YtdpjnpjmokncdaaGreatDoor
open Go.RowKit

def encE (v : Vs) : List UInt8 := if checkV v = true then encV v else []
/-- what files answers. -/
def FsPost (v : Vs) (w : World) (e : Ending) (w' : World) : Prop :=
  ∃ A n c B m d, e = .returned (.tuple #[.slice A n c, .slice B m d]) ∧ Rd w' A n (by8 (frameB (encE v))) ∧ Rd w' B m (by8 (frameB (nB v.gen))) ∧
    (∀ b, blkOf A = some b → w.heap.size ≤ b) ∧ (∀ b, blkOf B = some b → w.heap.size ≤ b) ∧ n ≤ c ∧ c ≤ 9223372036854775807 ∧ m ≤ d ∧ d ≤ 9223372036854775807 ∧ Mod Non w w'

set_option maxRecDepth 100000 in
set_option maxHeartbeats 4000000 in
theorem files_any (x : Vw) (w : World) (h : VwOk w x) :
    Calls Tryz.prog 37 #[x.val] w (FsPost x.v w) := by
  obtain ⟨gen, next, log, seq, A, c, ms⟩ := x
  obtain ⟨n, hn⟩ : ∃ n, ms.length = n := ⟨_, rfl⟩
  obtain ⟨V, hV⟩ : ∃ V, Vw.v ⟨gen, next, log, seq, A, c, ms⟩ = V := ⟨_, rfl⟩
  have hgen : V.gen = gen := by rw [← hV]; rfl
  obtain ⟨eb, heb⟩ : ∃ eb, encE V = eb := ⟨_, rfl⟩
  have hel : eb.length ≤ 4194304 := by
    rw [← heb]
    unfold encE
    split
    · rename_i hc
      have h1 := (encV_len hc).1
      have h2 := (encV_len hc).2
      omega
    · simp
  have hen : ∀ W, Mod Non w W → Calls Tryz.prog 77 #[.agg #[.int .i64 gen, .int .i64 next, .int .i64 log, .int .i64 seq, .slice A n c]] W fun e w' => ∃ A n c q, e = .returned (.tuple #[.slice A n c, .int .i64 q]) ∧ Rd w' A n (by8 eb) ∧ Mod Non W w' := fun W hW => by
    have := encode_any ⟨gen, next, log, seq, A, c, ms⟩ W (h.mod0 hW)
    unfold Vw.val at this
    simp only at this
    rw [hn, hV] at this
    refine this.mono fun e w' hp => ?_
    unfold EnPost at hp
    unfold encE at heb
    by_cases hc : checkV V = true
    · rw [if_pos hc] at hp heb
      obtain ⟨A', c', he, hr, _, _, hm⟩ := hp
      rw [heb] at he hr
      exact ⟨A', _, c', 0, he, hr, hm⟩
    · rw [if_neg hc] at hp heb
      subst heb
      exact ⟨none, 0, 0, 1, hp.1, Rd.nil _ _, hp.2⟩
  have HEN := Lib.hid hen
  have HEB := Lib.hid heb
  have HG := Lib.hid hgen
  rw [hV]
  unfold Vw.val
  simp only
  rw [hn]
  have HBX := Lib.hid (Blk.new w 34 #[.int .i64 gen, .int .i64 next, .int .i64 log, .int .i64 seq, .slice A n c])
  have HMA := Lib.hid ((Mod.refl Non w).alloc (.cells #[.int .i64 gen, .int .i64 next, .int .i64 log, .int .i64 seq, .slice A n c] 34))
  clear hen heb hgen hV hn h
  go_enter Tryz.func37, Tryz.ntmps37
  go_wp2_with fail
  refine (HEN.out _ HMA.out).mono ?_
  rintro e w1 ⟨A1, n1, c1, q1, rfl, hr1, hm1⟩
  have hn1 : n1 ≤ 4194304 := by
    have : eb.length = n1 := by simpa using hr1.1
    omega
  have HR1 := Lib.hid hr1
  have HM1 := Lib.hid (HMA.out.trans0 hm1)
  have HBX1 := Lib.hid (HBX.out.mod hm1 fun h => h)
  have hke : ∀ W, Mod Non w1 W → W.cell? ⟨w.heap.size, 0, none⟩ = some (.int .i64 gen) := fun W hW => (HBX1.out.mod hW fun h => h).cell 0
  have HKE := Lib.hid hke
  have M0 : Hid (Mod Non w1 w1.drew) := (Mod.refl Non w1).drew
  have hk0 := HKE.out _ M0.out
  have hpn : ∀ W, Calls Tryz.prog 79 #[.slice none 0 0, .int .i64 gen] W fun e w' => ∃ A' k c', e = .returned (.slice A' k c') ∧ k ≤ 9 ∧ w'.ownsRow W.heap.size 5 1 (.slice A' k c') k (by8 (nB gen)) ∧ Below W.heap.size W w' := fun W =>
    (putNum_any none 0 0 [] gen W (Rd.nil _ _) (by omega)).mono fun e w' ⟨A', c', h1, h2, h3⟩ => ⟨A', _, c', h1, by have := numB_len9 (clampN_le gen); omega, h2, h3⟩
  have HPN := Lib.hid hpn
  clear hr1 hm1 hke hpn
  go_wp2_with fail
  go_region_held3 (fun w' => w'.cell? ⟨w.heap.size, 0, none⟩ = some (.int .i64 gen))
    (first | exact hk0 | assumption | go_keep)
    (first
      | (go_at_call 78
         (with_reducible refine (putFrame_any none A1 0 0 n1 c1 [] eb _ (Rd.nil _ _) (HR1.out.mod0 M0.out) (by omega)).mono ?_)
         rintro e w2 ⟨A2, n2, c2, rfl, hn2, ho2, hb2⟩
         have HO2 := Lib.hid ho2
         have M2 : Hid (Mod Non w1 w2) := M0.out.trans0 (Mod.of_below hb2)
         have S2 := Lib.hid hb2.size
         have hk0 := HKE.out w2 M2.out
         clear hn2 ho2 hb2)
      | (go_at_call 79
         (with_reducible refine (HPN.out _).mono ?_)
         rintro e w3 ⟨A3, k3, c3, rfl, hk3, ho3, hb3⟩
         have HO3 := Lib.hid ho3
         have M23 : Hid (Mod Non w2 w3) := Mod.of_below hb3
         have M3 : Hid (Mod Non w1 w3) := M2.out.trans0 M23.out
         have hk0 := HKE.out w3 M3.out
         clear ho3 hb3)
      | (go_at_call 78
         (with_reducible refine (putFrame_any none A3 0 0 k3 c3 [] (nB gen) w3 (Rd.nil _ _) (Rd.of_own HO3.out) (by omega)).mono ?_)
         rintro e w4 ⟨A4, n4, c4, rfl, hn4, ho4, hb4⟩
         have HO4 := Lib.hid ho4
         have M34 : Hid (Mod Non w3 w4) := Mod.of_below hb4
         have M4 : Hid (Mod Non w1 w4) := M3.out.trans0 M34.out
         have hk0 := HKE.out w4 M4.out
         clear hn4 ho4 hb4)
      | fail)
  all_goals
    obtain ⟨_, _, he2, hc2, hcm2⟩ := own_slice HO2.out
    cases he2
    obtain ⟨_, _, he4, hc4, hcm4⟩ := own_slice HO4.out
    cases he4
    have hmx : maxLen = 9223372036854775807 := rfl
    have hfin : FsPost V w (.returned (.tuple #[.slice A2 n2 c2, .slice A4 n4 c4])) w4 := by
      refine ⟨A2, n2, c2, A4, n4, c4, rfl, ?_, ?_, fun b hb => ?_, fun b hb => ?_, hc2, by omega, hc4, by omega, HM1.out.trans0 M4.out⟩
      · rw [HEB.out]
        exact ((Rd.of_own HO2.out).mod0 M23.out).mod0 M34.out
      · rw [HG.out]
        exact Rd.of_own HO4.out
      · have h1 := own_base HO2.out b hb
        have h2 := HM1.out.size
        have h3 := M0.out.size
        omega
      · have h1 := own_base HO4.out b hb
        have h2 := HM1.out.size
        have h3 := M3.out.size
        omega
    go_wp2_with fail
    go_ret2
    exact hfin

end Go.Proofs.YtdpjnpjmokncdaaGreatDoor
