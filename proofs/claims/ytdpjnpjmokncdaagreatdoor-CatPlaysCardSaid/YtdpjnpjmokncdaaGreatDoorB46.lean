/- cat.write. -/
import Derived.Test.YtdpjnpjmokncdaaGreatDoorB45
import Derived.Test.YtdpjnpjmokncdaaGreatDoorB10
import Derived.Test.YtdpjnpjmokncdaaGreatDoorB42
import Derived.Test.YtdpjnpjmokncdaaGreatDoorB44
import Derived.Test.YtdpjnpjmokncdaaGreatDoorB14
import Derived.Test.YtdpjnpjmokncdaaGreatDoorB43
import Derived.Test.YtdpjnpjmokncdaaGreatDoorB33
namespace Go.Proofs.YtdpjnpjmokncdaaGreatDoor
open Go.RowKit
attribute [local go_sem] Oper.semAt_some

/-- how things stand between two rounds of write's loop. -/
structure WrI (F : Nat → Prop) (d : Nat) (D : Dk) (nm : ByteArray) (XS : List Bs) (w : World) (B : Nat) (pre : List Bs) (W : World) : Prop where
  disk : ∃ F', DiskIs W F' d (appAll nm D (pre.map (·.l))).1 ∧ ∀ k, F' k → F k ∨ B + 2 ≤ k
  fine : (appAll nm D (pre.map (·.l))).2 = 0
  mod : Mod F w W
  b3 : Blk W w.heap.size 24 #[.pointer (some ⟨d, 0, none⟩)]
  b4 : Blk W (w.heap.size + 1) 9 #[.string nm]
  b6 : Blk W (w.heap.size + 1 + 1) 25 #[.int .i64 0]
  rows : ∀ x ∈ XS, Rd W x.A x.n (by8 x.l)
/-- and how at an early end. -/
structure WrX (F : Nat → Prop) (d : Nat) (D : Dk) (nm : ByteArray) (w : World) (B : Nat) (c : Code) (pre : List Bs) (W : World) : Prop where
  ret : c = .ret
  disk : ∃ F', DiskIs W F' d (appAll nm D (pre.map (·.l))).1 ∧ ∀ k, F' k → F k ∨ B + 2 ≤ k
  not : (appAll nm D (pre.map (·.l))).2 ≠ 0
  mod : Mod F w W
  b6 : Blk W (w.heap.size + 1 + 1) 25 #[.int .i64 (appAll nm D (pre.map (·.l))).2]

set_option maxRecDepth 100000 in
set_option maxHeartbeats 2000000 in
theorem write_any (F : Nat → Prop) (d : Nat) (D : Dk) (nm : ByteArray) (A : Option Addr) (m c : Nat) (b : List UInt8) (w : World) (h : DiskIs w F d D) (ok : DkOk D) (g : RdO w F A m (by8 b))
    (hmc : m ≤ c) (hcm : c ≤ 9223372036854775807) (hm : m ≤ 140737488355328) (hsz : nm.size ≤ 9223372036854775807) :
    Calls Tryz.prog 40 #[.pointer (some ⟨d, 0, none⟩), .string nm, .slice A m c] w (DkPost F d (writeD D nm b).1 (.int .i64 (writeD D nm b).2) w) := by
  obtain ⟨R, hR⟩ : ∃ R, writeD D nm b = R := ⟨_, rfl⟩
  rw [hR]
  obtain ⟨s, hs⟩ : ∃ s, appAll nm D (piecesB b) = s := ⟨_, rfl⟩
  have hR' : R = if s.2 = 0 then (syncD s.1 nm, syncE s.1 nm) else s := by rw [← hR, ← hs]; rfl
  have HS := Lib.hid hs.symm
  have HR := Lib.hid hR'
  clear hs hR hR'
  have HH := Lib.hid h
  have HO := Lib.hid ok
  have HG := Lib.hid g
  clear h ok g
  have hbl : b.length = m := by simpa using HG.out.1.1
  have HBL := Lib.hid hbl
  clear hbl
  refine (callsIn_wide (n := 6)).1 ?_
  refine callsIn_of_wp_marks Tryz.func40 rfl trivial ?_ rfl
  refine wpIn_wide.2 ?_
  simp only [Tryz.ntmps40, List.size_toArray, List.length_cons, List.length_nil, Nat.reduceAdd, Nat.reduceSub, Array.replicate_succ, Array.replicate_zero, List.push_toArray, List.append_toArray, List.nil_append, List.cons_append]
  go_wp2_with fail
  have hm0 : Mod Non w (((w.alloc (.cells #[.pointer (some ⟨d, 0, none⟩)] 24)).alloc (.cells #[.string nm] 9)).alloc (.cells #[.int .i64 0] 25)) := (((Mod.refl Non w).alloc _).alloc _).alloc _
  have c3 : Blk (((w.alloc (.cells #[.pointer (some ⟨d, 0, none⟩)] 24)).alloc (.cells #[.string nm] 9)).alloc (.cells #[.int .i64 0] 25)) w.heap.size 24 #[.pointer (some ⟨d, 0, none⟩)] := ((Blk.new _ _ _).alloc _).alloc _
  have c4 : Blk (((w.alloc (.cells #[.pointer (some ⟨d, 0, none⟩)] 24)).alloc (.cells #[.string nm] 9)).alloc (.cells #[.int .i64 0] 25)) (w.heap.size + 1) 9 #[.string nm] := by
    have := (Blk.new (w.alloc (.cells #[.pointer (some ⟨d, 0, none⟩)] 24)) 9 #[.string nm]).alloc (.cells #[.int .i64 0] 25)
    rwa [World.size_alloc] at this
  have c6 : Blk (((w.alloc (.cells #[.pointer (some ⟨d, 0, none⟩)] 24)).alloc (.cells #[.string nm] 9)).alloc (.cells #[.int .i64 0] 25)) (w.heap.size + 1 + 1) 25 #[.int .i64 0] := by
    have := Blk.new ((w.alloc (.cells #[.pointer (some ⟨d, 0, none⟩)] 24)).alloc (.cells #[.string nm] 9)) 25 #[.int .i64 0]
    rwa [World.size_alloc, World.size_alloc] at this
  have hz0 : (((w.alloc (.cells #[.pointer (some ⟨d, 0, none⟩)] 24)).alloc (.cells #[.string nm] 9)).alloc (.cells #[.int .i64 0] 25)).heap.size = w.heap.size + 1 + 1 + 1 := by simp only [World.size_alloc]
  generalize (((w.alloc (.cells #[.pointer (some ⟨d, 0, none⟩)] 24)).alloc (.cells #[.string nm] 9)).alloc (.cells #[.int .i64 0] 25)) = w0 at *
  refine (chunkS_any A m c _).mono ?_
  rintro e w5 ⟨rfl, hw5⟩
  go_wp2_with fail
  have hm05 : Mod Non w0 w5 := by rw [← hw5]; exact ((Mod.refl _ _).alloc _).alloc _
  have hmw5 : Mod Non w w5 := hm0.trans0 hm05
  have hbx1 : Blk w5 w0.heap.size 44 #[.slice A m c] := by rw [← hw5]; exact (Blk.new _ _ _).alloc _
  have hbx2 : Blk w5 (w0.heap.size + 1) 3 #[.int .i64 4096] := by
    rw [← hw5]
    have := Blk.new (w0.alloc (.cells #[.slice A m c] 44)) 3 #[.int .i64 4096]
    rwa [World.size_alloc] at this
  have hz5 : w5.heap.size = w.heap.size + 5 := by rw [← hw5]; simp only [World.size_alloc]; omega
  have hz5a : w5.heap.size ≤ w.heap.size + 5 := by omega
  have hz5b : w.heap.size + 5 ≤ w5.heap.size := by omega
  clear hz5
  have hr5 : Rd w5 A m (by8 b) := HG.out.1.mod0 hmw5
  have hp0 := chunkC_is m A m 0 b w5 (by omega) hr5
  rw [List.drop_zero] at hp0
  have hpieces : ∀ x ∈ chunkC A m 0 b, Rd w5 x.A x.n (by8 x.l) ∧ x.n ≤ 4096 ∧ x.n ≤ x.c ∧ x.c ≤ 4096 ∧ ∀ k, blkOf x.A = some k → ¬ F k ∧ k < w.heap.size := fun x hx => by
    obtain ⟨p1, p2, p3, p4, p5, p6⟩ := hp0 x hx
    refine ⟨p1, p2, p3, p4, fun k hk => ?_⟩
    rw [p6] at hk
    have hm1 : 0 < m := by
      rcases Nat.eq_zero_or_pos m with h | h
      · subst h
        rw [chunkC_end A b (by omega)] at hx
        cases hx
      · exact h
    refine ⟨HG.out.2 hm1 k hk, ?_⟩
    obtain ⟨k', hk', hlt⟩ := HG.out.1.lt hm1
    rw [hk] at hk'
    cases hk'
    exact hlt
  have hmapl := chunkC_l m A m 0 b (by omega) (by rw [HBL.out]; omega)
  have hseq := chunkS_seq 5 (by omega) w0.heap.size (w0.heap.size + 1) A m c b w5 hbx1 hbx2 hmc hcm hm
  have hb3 : Blk w5 w.heap.size 24 #[.pointer (some ⟨d, 0, none⟩)] := c3.mod hm05 fun h => h
  have hb4 : Blk w5 (w.heap.size + 1) 9 #[.string nm] := c4.mod hm05 fun h => h
  have hb6 : Blk w5 (w.heap.size + 1 + 1) 25 #[.int .i64 0] := c6.mod hm05 fun h => h
  have hD5 := HH.out.mod0 hmw5
  have hFlt : ∀ k, F k → k < w.heap.size := by { obtain ⟨_, _, _, _, _, _, _, _, h⟩ := HH.out; exact h }
  have hpow := HH.out.lay.lt
  rw [hz0] at hseq
  clear hz0
  generalize chunkC A m 0 b = XS at *
  have hI : ∀ pre A' B', WrI F d D nm XS w w5.heap.size pre A' → Mod (LoopS (fun k => k = w.heap.size + 1 + 1 + 1 ∨ k = w.heap.size + 1 + 1 + 1 + 1) w5.heap.size) A' B' → WrI F d D nm XS w w5.heap.size pre B' := by
    rintro pre A' B' ⟨⟨F', hd, hF'⟩, h2, h3, h4, h5, h6, h7⟩ hm'
    have hS : ∀ k, LoopS (fun k => k = w.heap.size + 1 + 1 + 1 ∨ k = w.heap.size + 1 + 1 + 1 + 1) w5.heap.size k → w.heap.size + 3 ≤ k ∧ k ≤ w5.heap.size + 1 := by
      rintro k ((rfl | rfl) | rfl | rfl) <;> omega
    refine ⟨⟨F', hd.mod hm' (fun k hk hs => ?_) (fun hs => by have := hS _ hs; omega), hF'⟩, h2, h3.trans hm' (fun k hk => .inr (by have := hS _ hk; omega)), h4.mod hm' (fun hs => by have := hS _ hs; omega), h5.mod hm' (fun hs => by have := hS _ hs; omega), h6.mod hm' (fun hs => by have := hS _ hs; omega), fun x hx => (h7 x hx).mod hm' fun _ k hk hs => ?_⟩
    · have := hS _ hs
      rcases hF' k hk with h | h
      · have := hFlt k h; omega
      · omega
    · have := hS _ hs
      have h8 := ((hpieces x hx).2.2.2.2 k hk).2
      omega
  have hX : ∀ c pre A' B', WrX F d D nm w w5.heap.size c pre A' → Mod (LoopS (fun k => k = w.heap.size + 1 + 1 + 1 ∨ k = w.heap.size + 1 + 1 + 1 + 1) w5.heap.size) A' B' → WrX F d D nm w w5.heap.size c pre B' := by
    rintro c pre A' B' ⟨h1, ⟨F', hd, hF'⟩, h2, h3, h6⟩ hm'
    have hS : ∀ k, LoopS (fun k => k = w.heap.size + 1 + 1 + 1 ∨ k = w.heap.size + 1 + 1 + 1 + 1) w5.heap.size k → w.heap.size + 3 ≤ k ∧ k ≤ w5.heap.size + 1 := by
      rintro k ((rfl | rfl) | rfl | rfl) <;> omega
    refine ⟨h1, ⟨F', hd.mod hm' (fun k hk hs => ?_) (fun hs => by have := hS _ hs; omega), hF'⟩, h2, h3.trans hm' (fun k hk => .inr (by have := hS _ hk; omega)), h6.mod hm' (fun hs => by have := hS _ hs; omega)⟩
    have := hS _ hs
    rcases hF' k hk with h | h
    · have := hFlt k h; omega
    · omega
  have HI := Lib.hid hI
  have HX := Lib.hid hX
  have HP := Lib.hid hpieces
  have HML := Lib.hid hmapl
  have H0 : Hid (WrI F d D nm XS w w5.heap.size [] w5) := ⟨⟨F, hD5, fun k hk => .inl hk⟩, rfl, hmw5.non, hb3, hb4, hb6, fun x hx => (hpieces x hx).1⟩
  clear hI hX hpieces hmapl hD5 hb3 hb4 hb6 hmw5 hm05 hbx1 hbx2 hr5 hp0 c3 c4 c6 hm0 hw5
  refine wpIn_wide.1 (wpIn_rangeT (n := 6) (P := Tryz.prog) (F := Fence.wide) rfl (by omega) (gf := 126) (lb := #[.pointer (some ⟨w.heap.size + 1 + 1 + 1, 0, none⟩), .pointer (some ⟨w.heap.size + 1 + 1 + 1 + 1, 0, none⟩)]) rfl trivial (enters_of Tryz.func126 (by kernel_rfl) rfl) hseq (by rintro k (rfl | rfl) <;> omega)
    (WrI F d D nm XS w w5.heap.size) (WrX F d D nm w w5.heap.size) HI.out HX.out H0.out (fun x => { tmps := #[.pointer (some ⟨d, 0, none⟩), .string nm, .slice A m c, .pointer (some ⟨w.heap.size, 0, none⟩), .pointer (some ⟨w.heap.size + 1, 0, none⟩), undef, .pointer (some ⟨w.heap.size + 1 + 1, 0, none⟩), .slice x.A x.n x.c, undef,
      .slice A m c, .func (.func 126) #[] #[.pointer (some ⟨w.heap.size + 1 + 1 + 1, 0, none⟩), .pointer (some ⟨w.heap.size + 1 + 1 + 1 + 1, 0, none⟩)], .slice x.A x.n x.c, undef, undef, undef, undef, undef, undef, undef, undef, undef, undef], defers := [] }) ?assign ?body ?done ?stop)
  case assign =>
    intro l x W K hK
    obtain ⟨xA, xn, xc, xl⟩ := x
    simp only [Bs.val] at hK ⊢
    gi_wp2
    exact hK
  case body =>
    rintro l pre x W hpre hlt ⟨⟨F', hd, hF'⟩, h2, h3, b3, b4, b6, h7⟩
    obtain ⟨E, hE⟩ : ∃ E, appendE (appAll nm D (pre.map (·.l))).1 nm x.l = E := ⟨_, rfl⟩
    have HE := Lib.hid hE
    have HD := Lib.hid hd
    have HFF := Lib.hid hF'
    have H2 := Lib.hid h2
    have H3 := Lib.hid h3
    have H7 := Lib.hid h7
    have HB3 := Lib.hid b3
    have HB4 := Lib.hid b4
    have HB6 := Lib.hid b6
    have g3 : W.cell? ⟨w.heap.size, 0, none⟩ = some (.pointer (some ⟨d, 0, none⟩)) := b3.cell 0
    have g4 : W.cell? ⟨w.heap.size + 1, 0, none⟩ = some (.string nm) := b4.cell 0
    clear hE hd hF' h2 h3 b3 b4 b6 h7
    have hf2 : Fence.wide.fn 17 := trivial
    have hxm : x ∈ XS := hpre.subset (by simp)
    have HR0 : Hid (RdO W F' x.A x.n (by8 x.l)) := ⟨H7.out x hxm, fun _ k hk hs => by
      have h8 := (HP.out x hxm).2.2.2.2 k hk
      rcases HFF.out k hs with h | h
      · exact h8.1 h
      · omega⟩
    have hno : ∀ k, w.heap.size ≤ k → k < w5.heap.size + 2 → ¬ F' k := fun k h1 h2 h3 => by
      rcases HFF.out k h3 with h | h
      · have := hFlt k h; omega
      · omega
    have hn3 := hno w.heap.size (by omega) (by omega)
    have hn4 := hno (w.heap.size + 1) (by omega) (by omega)
    have hn6 := hno (w.heap.size + 1 + 1) (by omega) (by omega)
    have HSN : Hid (appAll nm D ((pre ++ [x]).map (·.l)) = (appendD (appAll nm D (pre.map (·.l))).1 nm x.l, E)) := by
      show _ = _
      rw [List.map_append, List.map_cons, List.map_nil, appAll_snoc]
      unfold appStep
      rw [if_pos H2.out, HE.out]
    by_cases hE0 : E = 0
    · subst hE0
      gi_wp2_with (gi_at_call 17
                   refine (CallsIn.inRound l (callsIn_wide.2 (append_any F' d _ nm x.A x.n x.c x.l _ HD.out (appAll_ok HO.out _) HR0.out hsz))).mono ?_
                   rintro e w7 ⟨rfl, F2, hD2, hM7, hF2⟩
                   rw [HE.out]
                   have HM7 := Lib.hid hM7
                   have HD2 := Lib.hid hD2
                   have HF2 := Lib.hid hF2
                   have b67 := HB6.out.mod HM7.out hn6
                   have g67 : w7.cell? ⟨w.heap.size + 1 + 1, 0, none⟩ = some (.int .i64 0) := b67.cell 0
                   have f67 := b67.frozen 0
                   have HB67 := Lib.hid b67
                   clear b67 hM7 hD2 hF2)
      exact ⟨KeepT.of_mod HM7.out (by { rintro k ((rfl | rfl) | rfl | rfl) <;> exact hno _ (by omega) (by omega) }),
        ⟨F2, by { rw [HSN.out]; exact HD2.out }, fun k hk => (HF2.out k hk).elim (fun h => HFF.out k h) fun h => .inr (by omega)⟩,
        by rw [HSN.out], H3.out.trans HM7.out (fun k hk => (HFF.out k hk).imp id fun h => by omega), HB3.out.mod HM7.out hn3, HB4.out.mod HM7.out hn4, HB67.out,
        fun y hy => (H7.out y hy).mod HM7.out fun _ k hk hs => by
          have h8 := (HP.out y hy).2.2.2.2 k hk
          rcases HFF.out k hs with h | h
          · exact h8.1 h
          · omega⟩
    · have hE1 : (E == 0) = false := by simp [hE0]
      have hE2 : (E != 0) = true := by simp [hE0]
      gi_wp2_with (gi_at_call 17
                   refine (CallsIn.inRound l (callsIn_wide.2 (append_any F' d _ nm x.A x.n x.c x.l _ HD.out (appAll_ok HO.out _) HR0.out hsz))).mono ?_
                   rintro e w7 ⟨rfl, F2, hD2, hM7, hF2⟩
                   rw [HE.out]
                   have HM7 := Lib.hid hM7
                   have HD2 := Lib.hid hD2
                   have HF2 := Lib.hid hF2
                   have b67 := HB6.out.mod HM7.out hn6
                   have g67 : w7.cell? ⟨w.heap.size + 1 + 1, 0, none⟩ = some (.int .i64 0) := b67.cell 0
                   have f67 := b67.frozen 0
                   have HB67 := Lib.hid b67
                   clear b67 hM7 hD2 hF2)
      have hm8 : Mod (fun k => k = w.heap.size + 1 + 1) w7 (w7.setCell ⟨w.heap.size + 1 + 1, 0, none⟩ (.int .i64 E)) := (Mod.refl _ _).set1 0 _
      have hF2n : ¬ F2 (w.heap.size + 1 + 1) := fun h => (HF2.out _ h).elim hn6 fun h => by omega
      have hm9 : Mod (fun k => F' k ∨ k = w.heap.size + 1 + 1) W (w7.setCell ⟨w.heap.size + 1 + 1, 0, none⟩ (.int .i64 E)) := (HM7.out.mono fun k h => .inl h).trans (hm8.mono fun k h => .inr h) fun k hk => .inl hk
      exact ⟨KeepT.of_mod hm9 (by { rintro k ((rfl | rfl) | rfl | rfl) <;> rintro (h | h) <;> first | exact hno _ (by omega) (by omega) h | omega }),
        rfl, ⟨F2, by { rw [HSN.out]; exact HD2.out.mod hm8 (fun k hk e => hF2n (e ▸ hk)) (by omega) }, fun k hk => (HF2.out k hk).elim (fun h => HFF.out k h) fun h => .inr (by omega)⟩,
        by { rw [HSN.out]; exact hE0 }, H3.out.trans hm9 (fun k hk => hk.elim (fun hk => (HFF.out k hk).imp id fun h => by omega) fun h => .inr (by omega)), by { rw [HSN.out]; exact HB67.out.set_ 0 _ }⟩
  case done =>
    rintro W ⟨⟨F', hd, hF'⟩, h2, h3, b3, b4, b6, h7⟩ hK
    have HD := Lib.hid hd
    have HFF := Lib.hid hF'
    have H2 := Lib.hid h2
    have H3 := Lib.hid h3
    have HB3 := Lib.hid b3
    have HB4 := Lib.hid b4
    have HB6 := Lib.hid b6
    have HK := Lib.hid hK
    have g3 : W.cell? ⟨w.heap.size, 0, none⟩ = some (.pointer (some ⟨d, 0, none⟩)) := b3.cell 0
    have g4 : W.cell? ⟨w.heap.size + 1, 0, none⟩ = some (.string nm) := b4.cell 0
    have hKlt : w5.heap.size < W.heap.size := (Array.getElem?_eq_some_iff.1 hK).1
    have hno : ∀ k, w.heap.size ≤ k → k < w5.heap.size + 2 → ¬ F' k := fun k h1 h2 h3 => by
      rcases HFF.out k h3 with h | h
      · have := hFlt k h; omega
      · omega
    have hn6 := hno (w.heap.size + 1 + 1) (by omega) (by omega)
    have hnK := hno w5.heap.size (by omega) (by omega)
    have HRS : Hid (R = (syncD (appAll nm D (XS.map (·.l))).1 nm, syncE (appAll nm D (XS.map (·.l))).1 nm)) := by
      show R = _
      rw [HR.out, HS.out, ← HML.out, if_pos H2.out]
    obtain ⟨D1, hD1⟩ : ∃ D1, (appAll nm D (XS.map (·.l))).1 = D1 := ⟨_, rfl⟩
    rw [hD1] at HRS HD
    have HO1 : Hid (DkOk D1) := by { show DkOk D1; rw [← hD1]; exact appAll_ok HO.out _ }
    obtain ⟨E, hE⟩ : ∃ E, syncE D1 nm = E := ⟨_, rfl⟩
    have HE := Lib.hid hE
    rw [hE] at HRS
    clear hd hF' h2 h3 b3 b4 b6 hK h7 hD1 hE
    go_wp2_with (first
      | (go_at_call 82
         refine (sync_any F' d D1 nm _ HD.out HO1.out hsz).mono ?_
         rintro e wb ⟨rfl, F2, hD2, hMb, hF2⟩
         rw [HE.out]
         have HMB := Lib.hid hMb
         have HD2 := Lib.hid hD2
         have HF2 := Lib.hid hF2
         have bb6 := HB6.out.mod HMB.out hn6
         have gb6 : wb.cell? ⟨w.heap.size + 1 + 1, 0, none⟩ = some (.int .i64 0) := bb6.cell 0
         have fb6 := bb6.frozen 0
         have HBB6 := Lib.hid bb6
         have hw8 : Mod (fun k => k = w.heap.size + 1 + 1) wb (wb.setCell ⟨w.heap.size + 1 + 1, 0, none⟩ (.int .i64 E)) := (Mod.refl _ _).set1 0 _
         have HW8 := Lib.hid hw8
         clear hw8 bb6 hMb hD2 hF2)
      | fail)
    have hnF2 : ∀ k, w.heap.size ≤ k → k < w5.heap.size + 1 → ¬ F2 k := fun k h1 h2 h3 => by
      rcases HF2.out k h3 with h | h
      · exact hno k h1 (by omega) h
      · omega
    have hwb : W.heap.size ≤ wb.heap.size := HMB.out.size
    have hK1 : (wb.setCell ⟨w.heap.size + 1 + 1, 0, none⟩ (.int .i64 E)).heap[w5.heap.size]? = some (.deferred (some [])) :=
      (HW8.out.block w5.heap.size (by omega) (by omega)).trans ((HMB.out.block w5.heap.size hKlt hnK).trans HK.out)
    have hm' : Mod (fun k => k = w5.heap.size) (wb.setCell ⟨w.heap.size + 1 + 1, 0, none⟩ (.int .i64 E)) ((wb.setCell ⟨w.heap.size + 1 + 1, 0, none⟩ (.int .i64 E)).putObj w5.heap.size (.deferred none)) := mod_putObj _ _ _ rfl
    have bb8 := (HBB6.out.set_ 0 (.int .i64 E)).mod hm' (by omega)
    rw [HRS.out]
    refine marks_coll rfl hK1 (results_i64cell rfl _ _ (w.heap.size + 1 + 1) _ rfl (bb8.cell 0) Tryz.underlying25) ⟨rfl, F2, (HD2.out.mod HW8.out (fun k hk e => hnF2 _ (by omega) (by omega) (e ▸ hk)) (by omega)).mod hm' (fun k hk e => hnF2 _ (by omega) (by omega) (e ▸ hk)) (by omega), ?_, ?_⟩
    · refine ((H3.out.trans HMB.out fun k hk => ?_).trans HW8.out fun k hk => .inr (by omega)).trans hm' fun k hk => .inr (by omega)
      exact (HFF.out k hk).imp id fun h => by omega
    · intro k hk
      rcases HF2.out k hk with h | h
      · exact (HFF.out k h).imp id fun h => by omega
      · exact .inr (by omega)
  case stop =>
    rintro c0 pre W hpre ⟨rfl, ⟨F', hd, hF'⟩, h2, h3, b6⟩ hK
    refine wpIn_wide.2 ?_
    go_wp2_with fail
    have hst := appAll_stop (nm := nm) (D := D) (hpre.map (·.l)) h2
    rw [HML.out, ← HS.out] at hst
    have hRs : R = s := by rw [HR.out, if_neg (by rw [hst]; exact h2)]
    rw [hRs, hst]
    have hKlt : w5.heap.size < W.heap.size := (Array.getElem?_eq_some_iff.1 hK).1
    have hm' : Mod (fun k => k = w5.heap.size) W (W.putObj w5.heap.size (.deferred none)) := mod_putObj W _ _ rfl
    have hno : ∀ k, F' k → k ≠ w5.heap.size := fun k hk e => by
      rcases hF' k hk with h | h
      · have := hFlt k h; omega
      · omega
    have b6' := b6.mod hm' (by omega)
    refine marks_coll rfl hK (results_i64cell rfl _ _ (w.heap.size + 1 + 1) _ rfl (b6'.cell 0) Tryz.underlying25) ⟨rfl, F', hd.mod hm' hno (by omega), h3.trans hm' (fun k hk => .inr (by omega)), fun k hk => (hF' k hk).imp id fun h => by omega⟩

end Go.Proofs.YtdpjnpjmokncdaaGreatDoor

/- cat.Save. -/
namespace Go.Proofs.YtdpjnpjmokncdaaGreatDoor
open Go.RowKit

/-- the disk and the memory between two writes of a Save. -/
structure SvM (F : Nat → Prop) (d : Nat) (ws : World) (F' : Nat → Prop) (D' : Dk) (wr : World) : Prop where
  disk : DiskIs wr F' d D'
  ok : DkOk D'
  mod : Mod F ws wr
  far : ∀ k, F' k → F k ∨ ws.heap.size ≤ k
theorem SvM.step {F F' : Nat → Prop} {d : Nat} {ws wr w2 : World} {D' D2 : Dk} {v : Value} {e : Ending} (h : SvM F d ws F' D' wr) (hp : DkPost F' d D2 v wr e w2) (ok2 : DkOk D2) : e = .returned v ∧ ∃ F2, SvM F d ws F2 D2 w2 := by
  obtain ⟨rfl, F2, hd, hm, hf⟩ := hp
  refine ⟨rfl, F2, hd, ok2, h.mod.trans hm fun k hk => (h.far k hk), fun k hk => ?_⟩
  rcases hf k hk with h1 | h1
  · exact h.far k h1
  · have := h.mod.size
    exact .inr (by omega)
theorem SvM.fin {F F' : Nat → Prop} {d : Nat} {w ws wr : World} {D' : Dk} (v : Value) (h : SvM F d ws F' D' wr) (hm : Mod Non w ws) : DkPost F d D' v w (.returned v) wr :=
  ⟨rfl, F', h.disk, hm.non.trans h.mod fun k hk => .inl hk, fun k hk => (h.far k hk).imp id fun h => by have := hm.size; omega⟩
theorem SvM.cell {F F' : Nat → Prop} {d : Nat} {ws wr : World} {D' : Dk} (h : SvM F d ws F' D' wr) {p : Addr} {v : Value} (hc : ws.cell? p = some v) (hp : ¬ F p.block) : wr.cell? p = some v := h.mod.cell hc hp
/-- a row of the call's own, between two writes. -/
theorem SvM.row {F F' : Nat → Prop} {d : Nat} {ws wr : World} {D' : Dk} (h : SvM F d ws F' D' wr) {A : Option Addr} {n B : Nat} {vs : List Value} (hr : Rd ws A n vs) (hB : ∀ k, blkOf A = some k → B ≤ k) (hF : ∀ k, F k → k < B) : RdO wr F' A n vs := by
  have hoff : 0 < n → Off F A := fun _ b hb hf => by
    have h1 := hB b hb
    have h2 := hF b hf
    omega
  refine ⟨hr.mod h.mod hoff, fun hn b hb hf => ?_⟩
  obtain ⟨b', hb', hl⟩ := hr.lt hn
  rw [hb] at hb'
  cases hb'
  rcases h.far b hf with h1 | h1
  · exact hoff hn b hb h1
  · omega

def saveT4 (D : Dk) (own : ByteArray) : Dk × Int := if renameE D shadN curN = 0 then sweepD (soOld own) (renameD D shadN curN) else (renameD D shadN curN, renameE D shadN curN)
def saveT3 (D : Dk) (own : ByteArray) (v : Vs) : Dk × Int := if (writeD D shadN (frameB (nB v.gen))).2 = 0 then saveT4 (writeD D shadN (frameB (nB v.gen))).1 own else writeD D shadN (frameB (nB v.gen))
def saveT2 (D : Dk) (own : ByteArray) (v : Vs) : Dk × Int := if (writeD D own (frameB (encE v))).2 = 0 then saveT3 (writeD D own (frameB (encE v))).1 own v else writeD D own (frameB (encE v))
def saveT1 (D : Dk) (own : ByteArray) (v : Vs) : Dk × Int := if (sweepD (soOwn own) D).2 = 0 then saveT2 (sweepD (soOwn own) D).1 own v else sweepD (soOwn own) D
theorem saveT_1 (D : Dk) (v : Vs) : saveT D v = saveT1 D (foldN manP v.gen) v := rfl

theorem encE_len (v : Vs) : (encE v).length ≤ 1048576 := by
  unfold encE
  split
  · rename_i h
    have h1 := (encV_len h).1
    have h2 := (encV_len h).2
    omega
  · simp

set_option maxRecDepth 100000 in
set_option maxHeartbeats 8000000 in
theorem save_any (F : Nat → Prop) (d : Nat) (D : Dk) (x : Vw) (w : World) (h : DiskIs w F d D) (ok : DkOk D) (hx : VwOk w x) (hE : ∀ w', Mod F w w' → Errs w') :
    Calls Tryz.prog 11 #[.pointer (some ⟨d, 0, none⟩), x.val] w (DkPost F d (saveD D x.v).1 (.int .i64 (saveD D x.v).2) w) := by
  obtain ⟨gen, next, log, seq, A, c, ms⟩ := x
  obtain ⟨n, hn⟩ : ∃ n, ms.length = n := ⟨_, rfl⟩
  obtain ⟨V, hV⟩ : ∃ V, Vw.v ⟨gen, next, log, seq, A, c, ms⟩ = V := ⟨_, rfl⟩
  have hgen : V.gen = gen := by rw [← hV]; rfl
  have hck : ∀ W, Mod Non w W → Calls Tryz.prog 22 #[.agg #[.int .i64 gen, .int .i64 next, .int .i64 log, .int .i64 seq, .slice A n c]] W fun e w' => e = .returned (.int .i64 (if checkV V = true then 0 else 1)) ∧ Mod Non W w' := fun W hW => by
    have := check_any ⟨gen, next, log, seq, A, c, ms⟩ W (hx.mod0 hW)
    unfold Vw.val at this
    simp only at this
    rw [hn, hV] at this
    exact this
  have hfs : ∀ W, Mod Non w W → Calls Tryz.prog 37 #[.agg #[.int .i64 gen, .int .i64 next, .int .i64 log, .int .i64 seq, .slice A n c]] W (FsPost V W) := fun W hW => by
    have := files_any ⟨gen, next, log, seq, A, c, ms⟩ W (hx.mod0 hW)
    unfold Vw.val at this
    simp only at this
    rw [hn, hV] at this
    exact this
  have hnd : ∀ W, Mod Non w W → Calls Tryz.prog 35 #[.pointer (some ⟨d, 0, none⟩), .agg #[.int .i64 gen, .int .i64 next, .int .i64 log, .int .i64 seq, .slice A n c]] W fun e w' => e = .returned (.int .i64 (needC V)) ∧ Mod Non W w' := fun W hW => by
    have := needC_any (some ⟨d, 0, none⟩) ⟨gen, next, log, seq, A, c, ms⟩ W (hx.mod0 hW) (h.lay.mod0 hW)
    unfold Vw.val at this
    simp only at this
    rw [hn, hV] at this
    exact this
  have hnm : ∀ W, Mod Non w W → Calls Tryz.prog 36 #[.string ⟨#[109, 97, 110, 47]⟩, .int .i64 gen] W fun e w' => e = .returned (.string (foldN manP gen)) ∧ Mod Non W w' := fun W hW =>
    fold_any manP gen W (h.lay.mod0 hW) (by decide)
  have hpow : ¬ F powG := by obtain ⟨_, _, _, _, _, _, _, h6, _⟩ := h; exact h6
  have hflt : ∀ k, F k → k < w.heap.size := by obtain ⟨_, _, _, _, _, _, _, _, h6⟩ := h; exact h6
  have HCK := Lib.hid hck
  have HFS := Lib.hid hfs
  have HND := Lib.hid hnd
  have HNM := Lib.hid hnm
  have HG := Lib.hid hgen
  have HD := Lib.hid h
  have HO := Lib.hid ok
  have HE := Lib.hid hE
  have HFLT := Lib.hid hflt
  have HPOW := Lib.hid hpow
  obtain ⟨R, hR⟩ : ∃ R, saveD D V = R := ⟨_, rfl⟩
  have HR := Lib.hid hR
  rw [hV, hR]
  unfold Vw.val
  simp only
  rw [hn]
  have HMA := Lib.hid ((Mod.refl Non w).alloc (.cells #[.int .i64 gen, .int .i64 next, .int .i64 log, .int .i64 seq, .slice A n c] 34))
  have hbx : ∀ W, Mod Non (w.alloc (.cells #[.int .i64 gen, .int .i64 next, .int .i64 log, .int .i64 seq, .slice A n c] 34)) W → Blk W w.heap.size 34 #[.int .i64 gen, .int .i64 next, .int .i64 log, .int .i64 seq, .slice A n c] := fun W hW => (Blk.new w _ _).mod hW fun h => h
  have HBW := Lib.hid hbx
  clear hck hfs hnd hnm hgen hV hn hx h ok hE hbx hR hflt hpow
  have HN := Lib.hid (noneC_any F d D _ (HD.out.mod0 HMA.out) HO.out)
  have hearly : ∀ E w', R = (D, E) → Mod Non w w' → DkPost F d R.1 (.int .i64 R.2) w (.returned (.int .i64 E)) w' := fun E w' hr hm => by
    subst hr
    exact ⟨rfl, F, HD.out.mod0 hm, hm.non, fun k hk => .inl hk⟩
  have HEARLY := Lib.hid hearly
  clear hearly
  by_cases hcv : checkV V = true
  · rw [if_pos hcv] at HCK
    by_cases hg0 : gen = 0
    · have HR1 : Hid (R = (D, 1)) := by
        show R = _
        rw [← HR.out]
        unfold saveD
        rw [if_neg (fun h => h.2 (by rw [HG.out, hg0]))]
      subst hg0
      go_enter Tryz.func11, Tryz.ntmps11
      go_wp2_with fail
      refine HN.out.mono ?_
      rintro e w1 ⟨rfl, hm1⟩
      have HM1 := Lib.hid hm1
      have hb := HBW.out _ HM1.out
      have y0 : w1.cell? ⟨w.heap.size, 0, none⟩ = some (.int .i64 0) := hb.cell 0
      have y1 : w1.cell? ⟨w.heap.size, 1, none⟩ = some (.int .i64 next) := hb.cell 1
      have y2 : w1.cell? ⟨w.heap.size, 2, none⟩ = some (.int .i64 log) := hb.cell 2
      have y3 : w1.cell? ⟨w.heap.size, 3, none⟩ = some (.int .i64 seq) := hb.cell 3
      have y4 : w1.cell? ⟨w.heap.size, 4, none⟩ = some (.slice A n c) := hb.cell 4
      clear hm1 hb
      go_wp2_with fail
      refine (HCK.out w1 (HMA.out.trans0 HM1.out)).mono ?_
      rintro e w2 ⟨rfl, hm2⟩
      have HM2 := Lib.hid (HM1.out.trans0 hm2)
      have z0 : w2.cell? ⟨w.heap.size, 0, none⟩ = some (.int .i64 0) := (HBW.out _ HM2.out).cell 0
      clear hm2 y0 y1 y2 y3 y4
      go_wp2_with fail
      go_ret
      exact HEARLY.out _ _ HR1.out (HMA.out.trans0 HM2.out)
    · have hgb : (gen == 0) = false := by simpa using hg0
      have hgd : decide (gen = 0) = false := decide_eq_false hg0
      have HRG : Hid (R = if D.off = true then (D, 5) else if D.n - D.used < needC V then (D, 4) else saveT D V) := by
        show R = _
        rw [← HR.out]
        unfold saveD
        rw [if_pos ⟨hcv, by rw [HG.out]; exact hg0⟩]
      have HCV := Lib.hid hcv
      clear hcv hg0
      go_enter Tryz.func11, Tryz.ntmps11
      go_wp2_with fail
      refine HN.out.mono ?_
      rintro e w1 ⟨rfl, hm1⟩
      have HM1 := Lib.hid hm1
      have hb := HBW.out _ HM1.out
      have y0 : w1.cell? ⟨w.heap.size, 0, none⟩ = some (.int .i64 gen) := hb.cell 0
      have y1 : w1.cell? ⟨w.heap.size, 1, none⟩ = some (.int .i64 next) := hb.cell 1
      have y2 : w1.cell? ⟨w.heap.size, 2, none⟩ = some (.int .i64 log) := hb.cell 2
      have y3 : w1.cell? ⟨w.heap.size, 3, none⟩ = some (.int .i64 seq) := hb.cell 3
      have y4 : w1.cell? ⟨w.heap.size, 4, none⟩ = some (.slice A n c) := hb.cell 4
      clear hm1 hb
      go_wp2_with fail
      refine (HCK.out w1 (HMA.out.trans0 HM1.out)).mono ?_
      rintro e w2 ⟨rfl, hm2⟩
      have HM2 := Lib.hid (HM1.out.trans0 hm2)
      have hb := HBW.out _ HM2.out
      have z0 : w2.cell? ⟨w.heap.size, 0, none⟩ = some (.int .i64 gen) := hb.cell 0
      have z1 : w2.cell? ⟨w.heap.size, 1, none⟩ = some (.int .i64 next) := hb.cell 1
      have z2 : w2.cell? ⟨w.heap.size, 2, none⟩ = some (.int .i64 log) := hb.cell 2
      have z3 : w2.cell? ⟨w.heap.size, 3, none⟩ = some (.int .i64 seq) := hb.cell 3
      have z4 : w2.cell? ⟨w.heap.size, 4, none⟩ = some (.slice A n c) := hb.cell 4
      clear hm2 hb y0 y1 y2 y3 y4
      go_wp2_with fail
      refine (off_any F d D _ (HD.out.mod0 (HMA.out.trans0 HM2.out))).mono ?_
      rintro e w3 ⟨rfl, rfl⟩
      cases hoff : D.off with
      | true =>
        have HR5 : Hid (R = (D, 5)) := by
          show R = _
          rw [HRG.out, if_pos hoff]
        clear hoff
        go_wp2_with fail
        go_ret
        exact HEARLY.out _ _ HR5.out (HMA.out.trans0 HM2.out)
      | false =>
        have HRF : Hid (R = if D.n - D.used < needC V then (D, 4) else saveT D V) := by
          show R = _
          rw [HRG.out, if_neg (by rw [hoff]; simp)]
        clear hoff
        obtain ⟨need, hneed⟩ : ∃ need, needC V = need := ⟨_, rfl⟩
        rw [hneed] at HRF HND
        clear hneed
        by_cases hlt : D.n - D.used < need
        · have HR4 : Hid (R = (D, 4)) := by
            show R = _
            rw [HRF.out, if_pos hlt]
          have hdec : decide (D.n - D.used < need) = true := decide_eq_true hlt
          clear hlt
          go_wp2_with fail
          go_region_held3 (fun w' => w'.cell? ⟨w.heap.size, 0, none⟩ = some (.int .i64 gen) ∧ w'.cell? ⟨w.heap.size, 1, none⟩ = some (.int .i64 next) ∧ w'.cell? ⟨w.heap.size, 2, none⟩ = some (.int .i64 log) ∧ w'.cell? ⟨w.heap.size, 3, none⟩ = some (.int .i64 seq) ∧ w'.cell? ⟨w.heap.size, 4, none⟩ = some (.slice A n c))
            (first | go_keep)
            (first
              | (go_at_call 34
                 refine (free_any F d D _ (HD.out.mod0 (HMA.out.trans0 HM2.out).drew) HO.out).mono ?_
                 rintro e w4 ⟨rfl, hq4⟩
                 have HM4 : Hid (Mod Non (w.alloc (.cells #[.int .i64 gen, .int .i64 next, .int .i64 log, .int .i64 seq, .slice A n c] 34)) w4) := by { obtain ⟨q4, rfl⟩ := hq4; exact (HM2.out.drew).drewN q4 }
                 clear hq4
                 have u0 : w4.cell? ⟨w.heap.size, 0, none⟩ = some (.int .i64 gen) := (HBW.out _ HM4.out).cell 0
                 have u1 : w4.cell? ⟨w.heap.size, 1, none⟩ = some (.int .i64 next) := (HBW.out _ HM4.out).cell 1
                 have u2 : w4.cell? ⟨w.heap.size, 2, none⟩ = some (.int .i64 log) := (HBW.out _ HM4.out).cell 2
                 have u3 : w4.cell? ⟨w.heap.size, 3, none⟩ = some (.int .i64 seq) := (HBW.out _ HM4.out).cell 3
                 have u4 : w4.cell? ⟨w.heap.size, 4, none⟩ = some (.slice A n c) := (HBW.out _ HM4.out).cell 4)
              | (go_at_call 35
                 refine (HND.out _ (HMA.out.trans0 HM4.out)).mono ?_
                 rintro e w5 ⟨rfl, hm5⟩
                 have HM5 := Lib.hid (HM4.out.trans0 hm5)
                 have v0 : w5.cell? ⟨w.heap.size, 0, none⟩ = some (.int .i64 gen) := (HBW.out _ HM5.out).cell 0
                 have v1 : w5.cell? ⟨w.heap.size, 1, none⟩ = some (.int .i64 next) := (HBW.out _ HM5.out).cell 1
                 have v2 : w5.cell? ⟨w.heap.size, 2, none⟩ = some (.int .i64 log) := (HBW.out _ HM5.out).cell 2
                 have v3 : w5.cell? ⟨w.heap.size, 3, none⟩ = some (.int .i64 seq) := (HBW.out _ HM5.out).cell 3
                 have v4 : w5.cell? ⟨w.heap.size, 4, none⟩ = some (.slice A n c) := (HBW.out _ HM5.out).cell 4
                 clear hm5)
              | fail)
          go_wp2_with fail
          go_ret
          exact HEARLY.out _ _ HR4.out (HMA.out.trans0 HM5.out)
        · have HRT : Hid (R = saveT D V) := by
            show R = _
            rw [HRF.out, if_neg hlt]
          have hdec : decide (D.n - D.used < need) = false := decide_eq_false hlt
          clear hlt HRF HRG HR HEARLY
          go_wp2_with fail
          go_region_held3 (fun w' => w'.cell? ⟨w.heap.size, 0, none⟩ = some (.int .i64 gen) ∧ w'.cell? ⟨w.heap.size, 1, none⟩ = some (.int .i64 next) ∧ w'.cell? ⟨w.heap.size, 2, none⟩ = some (.int .i64 log) ∧ w'.cell? ⟨w.heap.size, 3, none⟩ = some (.int .i64 seq) ∧ w'.cell? ⟨w.heap.size, 4, none⟩ = some (.slice A n c))
            (first | go_keep)
            (first
              | (go_at_call 34
                 refine (free_any F d D _ (HD.out.mod0 (HMA.out.trans0 HM2.out).drew) HO.out).mono ?_
                 rintro e w4 ⟨rfl, hq4⟩
                 have HM4 : Hid (Mod Non (w.alloc (.cells #[.int .i64 gen, .int .i64 next, .int .i64 log, .int .i64 seq, .slice A n c] 34)) w4) := by { obtain ⟨q4, rfl⟩ := hq4; exact (HM2.out.drew).drewN q4 }
                 clear hq4
                 have u0 : w4.cell? ⟨w.heap.size, 0, none⟩ = some (.int .i64 gen) := (HBW.out _ HM4.out).cell 0
                 have u1 : w4.cell? ⟨w.heap.size, 1, none⟩ = some (.int .i64 next) := (HBW.out _ HM4.out).cell 1
                 have u2 : w4.cell? ⟨w.heap.size, 2, none⟩ = some (.int .i64 log) := (HBW.out _ HM4.out).cell 2
                 have u3 : w4.cell? ⟨w.heap.size, 3, none⟩ = some (.int .i64 seq) := (HBW.out _ HM4.out).cell 3
                 have u4 : w4.cell? ⟨w.heap.size, 4, none⟩ = some (.slice A n c) := (HBW.out _ HM4.out).cell 4)
              | (go_at_call 35
                 refine (HND.out _ (HMA.out.trans0 HM4.out)).mono ?_
                 rintro e w5 ⟨rfl, hm5⟩
                 have HM5 := Lib.hid (HM4.out.trans0 hm5)
                 have v0 : w5.cell? ⟨w.heap.size, 0, none⟩ = some (.int .i64 gen) := (HBW.out _ HM5.out).cell 0
                 have v1 : w5.cell? ⟨w.heap.size, 1, none⟩ = some (.int .i64 next) := (HBW.out _ HM5.out).cell 1
                 have v2 : w5.cell? ⟨w.heap.size, 2, none⟩ = some (.int .i64 log) := (HBW.out _ HM5.out).cell 2
                 have v3 : w5.cell? ⟨w.heap.size, 3, none⟩ = some (.int .i64 seq) := (HBW.out _ HM5.out).cell 3
                 have v4 : w5.cell? ⟨w.heap.size, 4, none⟩ = some (.slice A n c) := (HBW.out _ HM5.out).cell 4
                 clear hm5)
              | fail)
          obtain ⟨own, hown⟩ : ∃ own, foldN manP gen = own := ⟨_, rfl⟩
          rw [hown] at HNM
          have HOWN := Lib.hid hown
          have hosz : own.size ≤ 17 := by
            rw [← hown]
            by_cases hr : 0 ≤ gen ∧ gen ≤ 1099511627776
            · rw [foldN_size hr]; decide
            · rw [foldN_0 hr]; omega
          clear hown hdec
          go_wp2_with fail
          refine (HNM.out _ (HMA.out.trans0 HM5.out)).mono ?_
          rintro e w6 ⟨rfl, hm6⟩
          have HM6 := Lib.hid (HM5.out.trans0 hm6)
          obtain ⟨w7, hw7⟩ : ∃ w7, w6.alloc (.cells #[.string own] 9) = w7 := ⟨_, rfl⟩
          have hm7 : Mod Non (w.alloc (.cells #[.int .i64 gen, .int .i64 next, .int .i64 log, .int .i64 seq, .slice A n c] 34)) w7 := by rw [← hw7]; exact HM6.out.alloc _
          have HM7 := Lib.hid hm7
          have hbo7 : Blk w7 w6.heap.size 9 #[.string own] := by rw [← hw7]; exact Blk.new _ _ _
          have HBO7 := Lib.hid hbo7
          have hb := HBW.out _ HM7.out
          have x0 : (w6.alloc (.cells #[.string own] 9)).cell? ⟨w.heap.size, 0, none⟩ = some (.int .i64 gen) := by rw [hw7]; exact hb.cell 0
          have x1 : (w6.alloc (.cells #[.string own] 9)).cell? ⟨w.heap.size, 1, none⟩ = some (.int .i64 next) := by rw [hw7]; exact hb.cell 1
          have x2 : (w6.alloc (.cells #[.string own] 9)).cell? ⟨w.heap.size, 2, none⟩ = some (.int .i64 log) := by rw [hw7]; exact hb.cell 2
          have x3 : (w6.alloc (.cells #[.string own] 9)).cell? ⟨w.heap.size, 3, none⟩ = some (.int .i64 seq) := by rw [hw7]; exact hb.cell 3
          have x4 : (w6.alloc (.cells #[.string own] 9)).cell? ⟨w.heap.size, 4, none⟩ = some (.slice A n c) := by rw [hw7]; exact hb.cell 4
          have hs7 : w.heap.size < w6.heap.size := by have := HM6.out.size; simp at this; omega
          have HW7 := Lib.hid hw7
          clear hm6 hm7 hbo7 hb z0 z1 z2 z3 z4 v0 v1 v2 v3 v4 u0 u1 u2 u3 u4 hw7
          go_wp2_with fail
          rw [HW7.out]
          refine (HFS.out w7 (HMA.out.trans0 HM7.out)).mono ?_
          rintro e w8 ⟨FA, fn, fc, FB, fm, fd, rfl, hr1, hr2, hb1, hb2, hfc, hfc2, hfd, hfd2, hm8⟩
          have hbo8 := HBO7.out.mod hm8 fun h => h
          have HBO8 := Lib.hid hbo8
          have HR1 := Lib.hid hr1
          have HR2 := Lib.hid hr2
          have HMW := Lib.hid (HMA.out.trans0 (HM7.out.trans0 hm8))
          have hs8 : w6.heap.size < w8.heap.size := hbo8.lt
          have hs78 : w7.heap.size ≤ w8.heap.size := hm8.size
          have hs67 : w6.heap.size < w7.heap.size := HBO7.out.lt
          have HB1 : Hid (∀ k, blkOf FA = some k → w.heap.size ≤ k) := fun k hk => by have := hb1 k hk; omega
          have HB2 : Hid (∀ k, blkOf FB = some k → w.heap.size ≤ k) := fun k hk => by have := hb2 k hk; omega
          have hfn : fn ≤ 100000000 := by
            have h1 : (frameB (encE V)).length = fn := by simpa using hr1.1
            have h2 := frameB_len (encE_len V)
            have h3 := encE_len V
            omega
          have hfm : fm ≤ 100000000 := by
            have h1 : (frameB (nB V.gen)).length = fm := by simpa using hr2.1
            have h2 := nB_len V.gen
            have h3 := frameB_len (b := nB V.gen) (by omega)
            omega
          have hnF : ¬ F w6.heap.size := fun h => by have := HFLT.out _ h; omega
          have S0 : Hid (SvM F d w8 F D w8) := ⟨HD.out.mod0 HMW.out, HO.out, Mod.refl _ _, fun k hk => .inl hk⟩
          have hso1 : ∀ W nm, Mod F w8 W → 1 ≤ nm.size → nm.size ≤ 100 → Calls Tryz.prog 39 (#[.string nm] ++ #[.pointer (some ⟨w6.heap.size, 0, none⟩)]) W fun e w' => e = .returned (.bool (soOwn own nm)) ∧ Mod Non W w' := fun W nm hW _ _ =>
            so1_any own nm w6.heap.size W ((HBO8.out.mod hW hnF).cell 0)
          have HSO1 := Lib.hid hso1
          have HRT1 : Hid (R = saveT1 D own V) := by
            show R = _
            rw [HRT.out, saveT_1, HG.out, HOWN.out]
          obtain ⟨⟨D1, E1⟩, hP1⟩ : ∃ P, sweepD (soOwn own) D = P := ⟨_, rfl⟩
          have HP1 := Lib.hid hP1
          clear hP1 hr1 hr2 hb1 hb2 hm8 hbo8 hso1 x0 x1 x2 x3 x4
          go_wp2_with fail
          refine (sweep_any F d D _ S0.out.disk HO.out 39 #[.pointer (some ⟨w6.heap.size, 0, none⟩)] (soOwn own) (enters_of Tryz.func39 (by kernel_rfl) rfl) HSO1.out).mono ?_
          intro e w9 hp9
          obtain ⟨rfl, F9, hs9⟩ := S0.out.step hp9 (sweepD_ok _ HO.out)
          rw [HP1.out] at hs9 ⊢
          have S9 := Lib.hid hs9
          have co9 : w9.cell? ⟨w6.heap.size, 0, none⟩ = some (.string own) := hs9.cell (HBO8.out.cell 0) hnF
          have HRT1 : Hid (R = if E1 = 0 then saveT2 D1 own V else (D1, E1)) := by
            show R = _
            rw [HRT1.out]
            unfold saveT1
            rw [HP1.out]
          simp only
          clear hp9 hs9
          by_cases hE1 : E1 = 0
          · subst hE1
            have HRT2 : Hid (R = saveT2 D1 own V) := by
              show R = _
              rw [HRT1.out, if_pos rfl]
            obtain ⟨⟨D2, E2⟩, hP2⟩ : ∃ P, writeD D1 own (frameB (encE V)) = P := ⟨_, rfl⟩
            have HP2 := Lib.hid hP2
            clear hP2 HRT1
            go_wp2_with fail
            refine (write_any F9 d D1 own FA fn fc (frameB (encE V)) w9 S9.out.disk S9.out.ok (S9.out.row HR1.out HB1.out HFLT.out) hfc hfc2 (by omega) (by omega)).mono ?_
            intro e w10 hp10
            obtain ⟨rfl, F10, hs10⟩ := S9.out.step hp10 (writeD_ok S9.out.ok _ _)
            rw [HP2.out] at hs10 ⊢
            have S10 := Lib.hid hs10
            have co10 : w10.cell? ⟨w6.heap.size, 0, none⟩ = some (.string own) := hs10.cell (HBO8.out.cell 0) hnF
            have HRT2' : Hid (R = if E2 = 0 then saveT3 D2 own V else (D2, E2)) := by
              show R = _
              rw [HRT2.out]
              unfold saveT2
              rw [HP2.out]
            simp only
            clear hp10 hs10 co9 HRT2
            by_cases hE2 : E2 = 0
            · subst hE2
              have HRT3 : Hid (R = saveT3 D2 own V) := by
                show R = _
                rw [HRT2'.out, if_pos rfl]
              obtain ⟨⟨D3, E3⟩, hP3⟩ : ∃ P, writeD D2 shadN (frameB (nB V.gen)) = P := ⟨_, rfl⟩
              have HP3 := Lib.hid hP3
              clear hP3 HRT2'
              go_wp2_with fail
              refine (write_any F10 d D2 shadN FB fm fd (frameB (nB V.gen)) w10 S10.out.disk S10.out.ok (S10.out.row HR2.out HB2.out HFLT.out) hfd hfd2 (by omega) (by decide)).mono ?_
              intro e w11 hp11
              obtain ⟨rfl, F11, hs11⟩ := S10.out.step hp11 (writeD_ok S10.out.ok _ _)
              rw [HP3.out] at hs11 ⊢
              have S11 := Lib.hid hs11
              have HRT3' : Hid (R = if E3 = 0 then saveT4 D3 own else (D3, E3)) := by
                show R = _
                rw [HRT3.out]
                unfold saveT3
                rw [HP3.out]
              simp only
              clear hp11 hs11 co10 HRT3
              by_cases hE3 : E3 = 0
              · subst hE3
                have HRT4 : Hid (R = saveT4 D3 own) := by
                  show R = _
                  rw [HRT3'.out, if_pos rfl]
                obtain ⟨D4, hD4⟩ : ∃ D4, renameD D3 shadN curN = D4 := ⟨_, rfl⟩
                obtain ⟨E4, hE4⟩ : ∃ E4, renameE D3 shadN curN = E4 := ⟨_, rfl⟩
                have HD4 := Lib.hid hD4
                have HE4 := Lib.hid hE4
                clear hD4 hE4 HRT3'
                go_wp2_with fail
                refine (rename_any F11 d D3 shadN curN w11 S11.out.disk S11.out.ok (by decide) (by decide)).mono ?_
                intro e w12 hp12
                obtain ⟨rfl, F12, hs12⟩ := S11.out.step hp12 (renameD_ok S11.out.ok _ _)
                rw [HD4.out] at hs12
                rw [HE4.out]
                have S12 := Lib.hid hs12
                have HRT4' : Hid (R = if E4 = 0 then sweepD (soOld own) D4 else (D4, E4)) := by
                  show R = _
                  rw [HRT4.out]
                  unfold saveT4
                  rw [HD4.out, HE4.out]
                clear hp12 hs12 HRT4
                by_cases hE40 : E4 = 0
                · subst hE40
                  have HRT5 : Hid (R = sweepD (soOld own) D4) := by
                    show R = _
                    rw [HRT4'.out, if_pos rfl]
                  clear HRT4'
                  have hso2 : ∀ W nm, Mod F12 w12 W → 1 ≤ nm.size → nm.size ≤ 100 → Calls Tryz.prog 42 (#[.string nm] ++ #[.pointer (some ⟨w6.heap.size, 0, none⟩)]) W fun e w' => e = .returned (.bool (soOld own nm)) ∧ Mod Non W w' := fun W nm hW hn1 hn2 => by
                    have hm : Mod F w8 W := S12.out.mod.trans hW fun k hk => (S12.out.far k hk)
                    have hmw : Mod F w W := HMW.out.non.trans hm fun k hk => .inl hk
                    exact so2_any own nm w6.heap.size W ((HBO8.out.mod hm hnF).cell 0) (HD.out.lay.mod hmw HPOW.out) (HE.out W hmw) hn1 (by omega)
                  have HSO2 := Lib.hid hso2
                  clear hso2
                  go_wp2_with fail
                  refine (sweep_any F12 d D4 _ S12.out.disk S12.out.ok 42 #[.pointer (some ⟨w6.heap.size, 0, none⟩)] (soOld own) (enters_of Tryz.func42 (by kernel_rfl) rfl) HSO2.out).mono ?_
                  intro e w13 hp13
                  obtain ⟨rfl, F13, hs13⟩ := S12.out.step hp13 (sweepD_ok _ S12.out.ok)
                  obtain ⟨⟨D5, E5⟩, hP5⟩ : ∃ P, sweepD (soOld own) D4 = P := ⟨_, rfl⟩
                  rw [hP5] at hs13 ⊢
                  have HRT6 : Hid (R = (D5, E5)) := by
                    show R = _
                    rw [HRT5.out, hP5]
                  have S13 := Lib.hid hs13
                  simp only
                  clear hp13 hs13 hP5 HRT5
                  go_wp2_with fail
                  go_ret
                  rw [HRT6.out]
                  exact S13.out.fin _ HMW.out
                · have hEb : (E4 == 0) = false := by simp [hE40]
                  have hEc : (E4 != 0) = true := by simp [hE40]
                  have HRT5 : Hid (R = (D4, E4)) := by
                    show R = _
                    rw [HRT4'.out, if_neg hE40]
                  clear HRT4' hE40
                  go_wp2_with fail
                  go_ret
                  rw [HRT5.out]
                  exact S12.out.fin _ HMW.out
              · have hEb : (E3 == 0) = false := by simp [hE3]
                have hEc : (E3 != 0) = true := by simp [hE3]
                have HRT5 : Hid (R = (D3, E3)) := by
                  show R = _
                  rw [HRT3'.out, if_neg hE3]
                clear HRT3' hE3
                go_wp2_with fail
                go_ret
                rw [HRT5.out]
                exact S11.out.fin _ HMW.out
            · have hEb : (E2 == 0) = false := by simp [hE2]
              have hEc : (E2 != 0) = true := by simp [hE2]
              have HRT5 : Hid (R = (D2, E2)) := by
                show R = _
                rw [HRT2'.out, if_neg hE2]
              clear HRT2' hE2
              go_wp2_with fail
              go_ret
              rw [HRT5.out]
              exact S10.out.fin _ HMW.out
          · have hEb : (E1 == 0) = false := by simp [hE1]
            have hEc : (E1 != 0) = true := by simp [hE1]
            have HRT5 : Hid (R = (D1, E1)) := by
              show R = _
              rw [HRT1.out, if_neg hE1]
            clear HRT1 hE1
            go_wp2_with fail
            go_ret
            rw [HRT5.out]
            exact S9.out.fin _ HMW.out
  · rw [if_neg hcv] at HCK
    have HR1 : Hid (R = (D, 1)) := by
      show R = _
      rw [← HR.out]
      unfold saveD
      rw [if_neg (fun h => hcv h.1)]
    clear hcv
    go_enter Tryz.func11, Tryz.ntmps11
    go_wp2_with fail
    refine HN.out.mono ?_
    rintro e w1 ⟨rfl, hm1⟩
    have HM1 := Lib.hid hm1
    have hb := HBW.out _ HM1.out
    have y0 : w1.cell? ⟨w.heap.size, 0, none⟩ = some (.int .i64 gen) := hb.cell 0
    have y1 : w1.cell? ⟨w.heap.size, 1, none⟩ = some (.int .i64 next) := hb.cell 1
    have y2 : w1.cell? ⟨w.heap.size, 2, none⟩ = some (.int .i64 log) := hb.cell 2
    have y3 : w1.cell? ⟨w.heap.size, 3, none⟩ = some (.int .i64 seq) := hb.cell 3
    have y4 : w1.cell? ⟨w.heap.size, 4, none⟩ = some (.slice A n c) := hb.cell 4
    clear hm1 hb
    go_wp2_with fail
    refine (HCK.out w1 (HMA.out.trans0 HM1.out)).mono ?_
    rintro e w2 ⟨rfl, hm2⟩
    have HM2 := Lib.hid (HM1.out.trans0 hm2)
    clear hm2 y0 y1 y2 y3 y4
    go_wp2_with fail
    go_ret
    exact HEARLY.out _ _ HR1.out (HMA.out.trans0 HM2.out)

end Go.Proofs.YtdpjnpjmokncdaaGreatDoor

/- sawyerlaw11.awake: it answers true. And the frame of the laws of package cat. -/
namespace Go.Proofs.YtdpjnpjmokncdaaGreatDoor
open Go.RowKit

/-- a disk that the law made, as it stands. -/
structure Lw (w : World) (d : Nat) (F : Nat → Prop) (D : Dk) (wr : World) : Prop where
  disk : DiskIs wr F d D
  ok : DkOk D
  mod : Mod Non w wr
  far : ∀ k, F k → w.heap.size ≤ k
theorem Lw.lt {w wr : World} {d : Nat} {F : Nat → Prop} {D : Dk} (h : Lw w d F D wr) : ∀ k, F k → k < wr.heap.size := by
  obtain ⟨_, _, _, _, _, _, _, _, h6⟩ := h.disk
  exact h6
theorem Lw.mod0 {w wr w2 : World} {d : Nat} {F : Nat → Prop} {D : Dk} (h : Lw w d F D wr) (hm : Mod Non wr w2) : Lw w d F D w2 := ⟨h.disk.mod0 hm, h.ok, h.mod.trans0 hm, h.far⟩
theorem Lw.step {w wr w2 : World} {d : Nat} {F : Nat → Prop} {D D2 : Dk} {v : Value} {e : Ending} (h : Lw w d F D wr) (hp : DkPost F d D2 v wr e w2) (ok2 : DkOk D2) :
    e = .returned v ∧ ∃ F2, Lw w d F2 D2 w2 ∧ Mod F wr w2 ∧ ∀ k, F2 k → F k ∨ wr.heap.size ≤ k := by
  obtain ⟨rfl, F2, hd, hm, hf⟩ := hp
  refine ⟨rfl, F2, ⟨hd, ok2, h.mod.trans hm fun k hk => .inr (h.far k hk), fun k hk => ?_⟩, hm, hf⟩
  rcases hf k hk with h1 | h1
  · exact h.far k h1
  · have := h.mod.size; omega
theorem Lw.errs {w wr : World} {d : Nat} {F : Nat → Prop} {D : Dk} (h : Lw w d F D wr) (hE : Errs w) : ∀ w', Mod F wr w' → Errs w' := fun _ hm => hE.mod0 (h.mod.trans hm fun k hk => .inr (h.far k hk))
theorem Lw.lay {w wr : World} {d : Nat} {F : Nat → Prop} {D : Dk} (h : Lw w d F D wr) : Lay wr := h.disk.lay
theorem Lw.new {w w1 : World} {d : Nat} {F : Nat → Prop} {D : Dk} (hd : DiskIs w1 F d D) (ok : DkOk D) (hb : Below w.heap.size w w1) (hF : ∀ k, F k → w.heap.size ≤ k) : Lw w d F D w1 := ⟨hd, ok, Mod.of_below hb, hF⟩

theorem newD_calm (n : Int) : Calm (newD n) := ⟨rfl, rfl⟩
def v17 : Vs := ⟨1, 0, 0, 7, []⟩
theorem v17_ok : checkV v17 = true := by decide
theorem man_1 : foldN manP 1 = ⟨#[109, 97, 110, 47, 48, 48, 48, 48, 48, 48, 48, 48, 48, 48, 48, 48, 49]⟩ := by decide +kernel
theorem tab_3 : foldN tabP 3 = ⟨#[116, 97, 98, 47, 48, 48, 48, 48, 48, 48, 48, 48, 48, 48, 48, 48, 51]⟩ := by decide +kernel
theorem tab_m1 : foldN tabP (-1) = ⟨#[]⟩ := by decide +kernel
theorem needC_le {v : Vs} (h : checkV v = true) : needC v ≤ 36 + 17 + (58 + 173 * v.tables.length) + 22 := by
  have hg := checkV_gen h
  unfold needC
  rw [if_pos h, manP_size hg]
  have h1 := (encV_len h).1
  have h2 := encV_small h
  have h3 := frameB_len h2
  have h4 := nB_len v.gen
  have h5 := frameB_len (b := nB v.gen) (by omega)
  have he : encE v = encV v := by unfold encE; rw [if_pos h]
  rw [he]
  omega
theorem awake_plainC : ∃ D1, saveD (newD 1000) v17 = (D1, 0) ∧ DkOk D1 ∧ loadV D1 = some v17 ∧ D1.files.length = 2 ∧ (findF D1.files curN).isSome = true ∧ (findF D1.files (foldN manP 1)).isSome = true := by
  have ok0 : DkOk (newD 1000) := newD_ok (by omega) (by omega)
  have hn := needC_le v17_ok
  have ht : v17.tables.length = 0 := rfl
  have hn0 : (newD 1000).n = 1000 := rfl
  have hu0 : (newD 1000).used = 0 := rfl
  have hT := saveT_calm (newD_calm 1000) ok0 v17_ok (by rw [hn0, hu0]; omega)
  have hS : saveD (newD 1000) v17 = saveT (newD 1000) v17 := by
    unfold saveD
    rw [if_pos ⟨v17_ok, by decide⟩, if_neg (by simp [newD]), if_neg (by rw [hn0, hu0]; omega)]
  have hw := saveD_went ok0 v17
  rw [hS] at hw ⊢
  have hok := saveT_ok ok0 v17
  refine ⟨(saveT (newD 1000) v17).1, Prod.ext rfl hT.1, hok, ?_⟩
  rcases hw with ⟨h, _⟩ | ⟨c, k, s, z⟩
  · exact absurd hT.1 h
  · have hc : (findF (saveT (newD 1000) v17).1.files curN).isSome = true := by rw [c.cur]; rfl
    have hm : (findF (saveT (newD 1000) v17).1.files (foldN manP 1)).isSome = true := by have := c.man; rw [show v17.gen = 1 from rfl] at this; rw [this]; rfl
    refine ⟨c.load, two_files hok (fun e => man_ne_cur (g := 1) (by omega) e.symm) hc hm fun q h1 h2 => ?_, hc, hm⟩
    rcases k q h1 h2 with h | h
    · exact h
    · rw [h]; rfl

set_option maxRecDepth 100000 in
set_option maxHeartbeats 4000000 in
theorem awakeC_any (w : World) (hL : Lay w) (hE : Errs w) : Calls Tryz.prog 9 #[] w fun e w' => e = .returned (.bool true) ∧ Mod Non w w' := by
  obtain ⟨D1, h1, ok1, hl1, hf1, hc1, hm1⟩ := awake_plainC
  have H1 := Lib.hid h1
  have HL1 := Lib.hid hl1
  have HF1 := Lib.hid hf1
  have HC1 := Lib.hid hc1
  have HM1 := Lib.hid hm1
  have HL := Lib.hid hL
  have HE := Lib.hid hE
  clear h1 hl1 hf1 hc1 hm1 hL hE
  go_enter Tryz.func9, Tryz.ntmps9
  go_wp2_with fail
  refine (new_yes 1000 _ HL.out (by omega) (by omega)).mono ?_
  rintro e w1 ⟨d, F, rfl, hd1, hb1, hF1⟩
  have LW1 := Lib.hid (Lw.new hd1 (newD_ok (n := 1000) (by omega) (by omega)) hb1 hF1)
  clear hd1 hb1 hF1
  go_wp2_with fail
  refine (loadC_any F d (newD 1000) w1 LW1.out.disk LW1.out.ok).mono ?_
  intro e w2 hp2
  unfold LoPost at hp2
  rw [load_empty (D := newD 1000) rfl] at hp2
  obtain ⟨x, hxv, rfl, _, _, hm2⟩ := hp2
  obtain ⟨xg, xn, xl, xs, xA, xc, xms⟩ := x
  unfold Vw.v zeroV at hxv
  simp only [Vs.mk.injEq] at hxv
  obtain ⟨rfl, rfl, rfl, rfl, -⟩ := hxv
  unfold Vw.val
  simp only
  obtain ⟨xk, hxk⟩ : ∃ xk, xms.length = xk := ⟨_, rfl⟩
  rw [hxk]
  have LW2 := Lib.hid (LW1.out.mod0 hm2)
  clear hm2 hxk
  obtain ⟨w3, hw3⟩ : ∃ w3, w2.alloc (.cells #[.int .i64 0, .int .i64 0, .int .i64 0, .int .i64 0, .slice xA xk xc] 34) = w3 := ⟨_, rfl⟩
  have hb3 : Blk w3 w2.heap.size 34 #[.int .i64 0, .int .i64 0, .int .i64 0, .int .i64 0, .slice xA xk xc] := by rw [← hw3]; exact Blk.new _ _ _
  have LW3 := Lib.hid (LW2.out.mod0 (w2 := w3) (by rw [← hw3]; exact (Mod.refl _ _).alloc _))
  have HB3 := Lib.hid hb3
  have hn3 : ¬ F w2.heap.size := fun h => by have := LW2.out.lt _ h; omega
  have HW3 := Lib.hid hw3
  have h23 : w2.heap.size < w3.heap.size := hb3.lt
  clear hw3 hb3
  go_wp2_with fail
  rw [HW3.out]
  have hs := save_any F d (newD 1000) ⟨1, 0, 0, 7, none, 0, []⟩ w3 LW3.out.disk LW3.out.ok ⟨Rd.nil _ _, Nat.le_refl _, by show (0 : Nat) ≤ 9223372036854775807; omega, fun m hm => by cases hm⟩ (LW3.out.errs HE.out)
  rw [show Vw.v ⟨1, 0, 0, 7, none, 0, []⟩ = v17 from rfl, H1.out] at hs
  refine hs.mono ?_
  intro e w4 hp4
  obtain ⟨rfl, F4, hl4, hm4, hf4⟩ := LW3.out.step hp4 ok1
  have LW4 := Lib.hid hl4
  have hb4 := HB3.out.mod hm4 hn3
  have hn4 : ¬ F4 w2.heap.size := fun h => (hf4 _ h).elim hn3 fun h => by omega
  have HB4 := Lib.hid hb4
  have h24 : w2.heap.size < w4.heap.size := hb4.lt
  clear hp4 hl4 hm4 hf4 hs hb4
  go_wp2_with fail
  refine (loadC_any F4 d D1 w4 LW4.out.disk LW4.out.ok).mono ?_
  intro e w5 hp5
  unfold LoPost at hp5
  rw [HL1.out] at hp5
  obtain ⟨y, hyv, rfl, _, _, hm5⟩ := hp5
  obtain ⟨yg, yn, yl, ys, yA, yc, yms⟩ := y
  unfold Vw.v v17 at hyv
  simp only [Vs.mk.injEq] at hyv
  obtain ⟨rfl, rfl, rfl, rfl, -⟩ := hyv
  unfold Vw.val
  simp only
  obtain ⟨yk, hyk⟩ : ∃ yk, yms.length = yk := ⟨_, rfl⟩
  rw [hyk]
  have LW5 := Lib.hid (LW4.out.mod0 hm5)
  have HB5 := Lib.hid (HB4.out.mod hm5 fun h => h)
  clear hm5 hyk
  obtain ⟨w6, hw6⟩ : ∃ w6, w5.alloc (.cells #[.int .i64 1, .int .i64 0, .int .i64 0, .int .i64 7, .slice yA yk yc] 34) = w6 := ⟨_, rfl⟩
  have hb6 : Blk w6 w5.heap.size 34 #[.int .i64 1, .int .i64 0, .int .i64 0, .int .i64 7, .slice yA yk yc] := by rw [← hw6]; exact Blk.new _ _ _
  have hm56 : Mod Non w5 w6 := by rw [← hw6]; exact (Mod.refl _ _).alloc _
  have LW6 := Lib.hid (LW5.out.mod0 hm56)
  have hbo6 := HB5.out.mod hm56 fun h => h
  have g0 : (w5.alloc (.cells #[.int .i64 1, .int .i64 0, .int .i64 0, .int .i64 7, .slice yA yk yc] 34)).cell? ⟨w2.heap.size, 0, none⟩ = some (.int .i64 0) := by rw [hw6]; exact hbo6.cell 0
  have k0 : (w5.alloc (.cells #[.int .i64 1, .int .i64 0, .int .i64 0, .int .i64 7, .slice yA yk yc] 34)).cell? ⟨w5.heap.size, 0, none⟩ = some (.int .i64 1) := by rw [hw6]; exact hb6.cell 0
  have k3 : (w5.alloc (.cells #[.int .i64 1, .int .i64 0, .int .i64 0, .int .i64 7, .slice yA yk yc] 34)).cell? ⟨w5.heap.size, 3, none⟩ = some (.int .i64 7) := by rw [hw6]; exact hb6.cell 3
  have HW6 := Lib.hid hw6
  clear hw6 hb6 hm56 hbo6
  go_wp2_with fail
  rw [HW6.out]
  refine (names_any F4 d D1 w6 LW6.out.disk LW6.out.ok).mono ?_
  rintro e w7 ⟨An, nn, cn, L, rfl, hL, hr7, hnn, hcn, _, hb7⟩
  have hn2 : nn = 2 := by
    have h1 : L.length = nn := by simpa using hr7.1
    rw [← h1, namesD_of hL, namesD_len D1 LW6.out.ok.nd]
    exact HF1.out
  subst hn2
  have LW7 := Lib.hid (LW6.out.mod0 (Mod.of_below hb7))
  clear hL hr7 hb7
  go_wp2_with fail
  refine (has_any curN F4 d D1 w7 LW7.out.disk).mono ?_
  rw [HC1.out]
  rintro e w8 ⟨rfl, hm8⟩
  have LW8 := Lib.hid (LW7.out.mod0 hm8)
  clear hm8
  go_wp2_with fail
  rw [← man_1]
  refine (has_any (foldN manP 1) F4 d D1 w8 LW8.out.disk).mono ?_
  rw [HM1.out]
  rintro e w9 ⟨rfl, hm9⟩
  have LW9 := Lib.hid (LW8.out.mod0 hm9)
  clear hm9
  go_wp2_with fail
  refine (table_any 3 w9 LW9.out.lay).mono ?_
  rw [tab_3]
  rintro e w10 ⟨rfl, hm10⟩
  have LW10 := Lib.hid (LW9.out.mod0 hm10)
  clear hm10
  go_wp2_with fail
  refine (table_any (-1) w10 LW10.out.lay).mono ?_
  rw [tab_m1]
  rintro e w11 ⟨rfl, hm11⟩
  have LW11 := Lib.hid (LW10.out.mod0 hm11)
  clear hm11
  go_wp2_with fail
  go_ret
  exact ⟨rfl, LW11.out.mod⟩

end Go.Proofs.YtdpjnpjmokncdaaGreatDoor
