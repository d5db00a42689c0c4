/- sawyerref02: TakeFrame. -/
import Derived.Test.YtgdamcimpgapgaaGreatDoorM32
import Derived.Test.YtgdamcimpgapgaaGreatDoorM06
import Derived.Test.YtgdamcimpgapgaaGreatDoorM17
import Derived.Test.YtgdamcimpgapgaaGreatDoorM22
import Derived.Deep.RegionHeld3
import Derived.Test.YtgdamcimpgapgaaGreatDoorM28
namespace Go.Proofs.YtgdamcimpgapgaaGreatDoor
open Go.RowKit

/-- what the reference's TakeFrame answers. -/
def TfqPost (l : List UInt8) (most : Int) (w : World) (e : Ending) (w' : World) : Prop :=
  match takeFrame l most with
  | none => e = .returned (.tuple #[.slice none 0 0, .slice none 0 0, .int .i64 2]) ∧ Below w.heap.size w w'
  | some (body, rest) => ∃ A' c' B' d', e = .returned (.tuple #[.slice A' body.length c', .slice B' rest.length d', .int .i64 0]) ∧ Rd w' A' body.length (by8 body) ∧ (∀ b, blkOf A' = some b → w.heap.size ≤ b) ∧ body.length ≤ c' ∧ c' ≤ 9223372036854775807 ∧
      Rd w' B' rest.length (by8 rest) ∧ (∀ b, blkOf B' = some b → w.heap.size ≤ b) ∧ rest.length ≤ d' ∧ d' ≤ 9223372036854775807 ∧ Below w.heap.size w w'
theorem tfq_none {l : List UInt8} {most : Int} {w w' : World} (h : takeFrame l most = none) (hb : Below w.heap.size w w') : TfqPost l most w (.returned (.tuple #[.slice none 0 0, .slice none 0 0, .int .i64 2])) w' := by
  unfold TfqPost; rw [h]; exact ⟨rfl, hb⟩
theorem tfq_some {l body rest : List UInt8} {most : Int} {w w' : World} {A' B' : Option Addr} {n c' r d' : Nat} (h : takeFrame l most = some (body, rest)) (hn : body.length = n) (hr : rest.length = r)
    (ho : Rd w' A' n (by8 body)) (hoo : ∀ b, blkOf A' = some b → w.heap.size ≤ b) (hc : n ≤ c') (hc2 : c' ≤ 9223372036854775807) (hB : Rd w' B' r (by8 rest)) (hbb : ∀ b, blkOf B' = some b → w.heap.size ≤ b) (hd : r ≤ d') (hd2 : d' ≤ 9223372036854775807) (hb : Below w.heap.size w w') :
    TfqPost l most w (.returned (.tuple #[.slice A' n c', .slice B' r d', .int .i64 0])) w' := by
  subst hn
  subst hr
  unfold TfqPost; rw [h]; exact ⟨A', c', B', d', rfl, ho, hoo, hc, hc2, hB, hbb, hd, hd2, hb⟩
theorem putFrameR_nil (B : Option Addr) (m d : Nat) (k F : List UInt8) (hF : frameB k = F) (w : World) (g : Rd w B m (by8 k)) (hn : m ≤ 140737488351232) :
    Calls Tryz.prog 89 #[.slice none 0 0, .slice B m d] w fun e w' => ∃ A' c', e = .returned (.slice A' F.length c') ∧
      w'.ownsRow w.heap.size 5 1 (.slice A' F.length c') F.length (by8 F) ∧ Below w.heap.size w w' := by
  refine (putFrameR_any none B 0 0 m d [] k w (Rd.nil _ _) g (by omega)).mono ?_
  rw [List.nil_append, hF]
  exact fun _ _ h => h
theorem below_drewN' {B : Nat} {a b : World} (h : Below B a b) (q : Nat) : Below B a (b.drewN q) := ⟨h.os, h.tape, h.output, h.size, h.block⟩

set_option maxRecDepth 100000 in
set_option maxHeartbeats 2000000 in
theorem takeFrameR_any (A : Option Addr) (n c : Nat) (l : List UInt8) (most : Int) (w : World) (h : Rd w A n (by8 l)) (hnc : n ≤ c) (hn : n ≤ 140737488351232) (hcm : c ≤ 9223372036854775807) :
    Calls Tryz.prog 87 #[.slice A n c, .int .i64 most] w (TfqPost l most w) := by
  have hl : l.length = n := by simpa using h.1
  have HL := Lib.hid hl
  have HH := Lib.hid h
  clear hl
  have hct := takeNumR_any A n c l w h hnc (by omega) hcm
  clear h
  rcases htn : takeNum l with _ | ⟨m, rest⟩
  · have HF : Hid (takeFrame l most = none) := by show takeFrame l most = none; unfold takeFrame; rw [htn]
    have hct' : Calls Tryz.prog 111 #[.slice A n c] w fun e w' => e = .returned (.tuple #[.int .i64 0, .slice none 0 0, .int .i64 2]) ∧ Below w.heap.size w w' := hct.mono fun e w' hp => by unfold TnqPost at hp; rw [htn] at hp; exact hp
    have HC := Lib.hid hct'
    clear hct hct' htn
    go_enter Tryz.func87, Tryz.ntmps87
    go_wp2_with fail
    refine HC.out.mono ?_
    rintro e w1 ⟨rfl, hb1⟩
    go_wp2_with fail
    go_ret3
    exact tfq_none HF.out hb1
  · have hct' : Calls Tryz.prog 111 #[.slice A n c] w fun e w' => ∃ A' c', e = .returned (.tuple #[.int .i64 (m : Nat), .slice A' rest.length c', .int .i64 0]) ∧ w'.ownsRow w.heap.size 5 1 (.slice A' rest.length c') rest.length (by8 rest) ∧ Below w.heap.size w w' := hct.mono fun e w' hp => by unfold TnqPost at hp; rw [htn] at hp; exact hp
    have HC := Lib.hid hct'
    obtain ⟨hrl, hmm⟩ := takeNum_spec htn
    rw [HL.out] at hrl
    by_cases hbig : most < (m : Int) ∨ (rest.length : Int) - 4 < (m : Int)
    · have HF : Hid (takeFrame l most = none) := by show takeFrame l most = none; unfold takeFrame; rw [htn]; simp only; rw [if_pos hbig]
      clear htn hct hct'
      obtain ⟨r, hr⟩ : ∃ r, rest.length = r := ⟨_, rfl⟩
      have HR := Lib.hid hr
      rw [hr] at hrl HC hbig
      clear hr
      by_cases hb1 : most < (m : Int)
      · clear hbig
        go_enter Tryz.func87, Tryz.ntmps87
        go_wp2_with fail
        refine HC.out.mono ?_
        rintro e w1 ⟨A1, c1, rfl, ho1, hb1⟩
        go_wp2_with fail
        go_ret3
        exact tfq_none HF.out hb1
      · have hb2 : (r : Int) - 4 < (m : Int) := by omega
        have hb3 : (m : Int) ≤ most := by omega
        clear hbig hb1
        go_enter Tryz.func87, Tryz.ntmps87
        go_wp2_with fail
        refine HC.out.mono ?_
        rintro e w1 ⟨A1, c1, rfl, ho1, hb1⟩
        go_wp2_with fail
        go_ret3
        exact tfq_none HF.out hb1
    · have hb1' : (m : Int) ≤ most := by omega
      have hb2' : (m : Int) + 4 ≤ (rest.length : Int) := by omega
      obtain ⟨t1, t2⟩ := takeFrame_own htn hb1' (by omega) hmm
      clear hbig hct hct'
      obtain ⟨r, hr⟩ : ∃ r, rest.length = r := ⟨_, rfl⟩
      obtain ⟨body, hbody⟩ : ∃ body, (rest.drop 4).take m = body := ⟨_, rfl⟩
      obtain ⟨tl, htl⟩ : ∃ tl, rest.drop (4 + m) = tl := ⟨_, rfl⟩
      obtain ⟨F, hF⟩ : ∃ F, frameB body = F := ⟨_, rfl⟩
      obtain ⟨G, hG⟩ : ∃ G, l.take F.length = G := ⟨_, rfl⟩
      have hbl : body.length = m := by rw [← hbody, List.length_take, List.length_drop]; omega
      have htll : tl.length = r - (4 + m) := by rw [← htl, List.length_drop, hr]
      have hFl : F.length ≤ n := by
        have hc := takeNum_canon htn
        have hlen := congrArg List.length hc
        rw [HL.out, List.length_append] at hlen
        rw [← hF]
        unfold frameB
        rw [hbl]
        simp [high4, hbl]
        omega
      rw [hbody, htl, hF] at t1
      rw [hbody, hF] at t2
      rw [hG] at t1 t2
      rw [hr] at hrl hb2' HC
      have HR := Lib.hid hr
      have HBD := Lib.hid hbody
      have HTL := Lib.hid htl
      have HFF := Lib.hid hF
      have HGG := Lib.hid hG
      have HBL := Lib.hid hbl
      have HTLL := Lib.hid htll
      have T1 := Lib.hid t1
      have T2 := Lib.hid t2
      clear hr hbody htl hF hG hbl htll t1 t2 htn
      go_enter Tryz.func87, Tryz.ntmps87
      go_wp2_with fail
      refine HC.out.mono ?_
      rintro e w1 ⟨A1, c1, rfl, ho1, hb1⟩
      have hcc := own_slice ho1
      have hc1 : r ≤ c1 ∧ c1 ≤ maxLen := by
        obtain ⟨A9, c9, e9, h1, h2⟩ := hcc
        injection e9 with _ _ e
        subst e
        exact ⟨h1, h2⟩
      clear hcc
      obtain ⟨hc1, hc2⟩ := hc1
      unfold maxLen at hc2
      have HB1 := Lib.hid hb1
      have hsz1 := hb1.size
      clear hb1
      have hr1 := Rd.of_own ho1
      obtain ⟨b1, o1, rfl, hcells⟩ := hr1.2 (by omega)
      have hbb : w.heap.size ≤ b1 := own_base ho1 b1 rfl
      clear hcells ho1
      have hc4 := (hr1.cut (k := 4) (cap := c1) (by omega) hc1).take (k := m) (by omega)
      have hc5 := hr1.cut (k := 4 + m) (cap := c1) (by omega) hc1
      rw [← by8_drop, HTL.out] at hc5
      rw [← by8_drop, ← by8_take, HBD.out] at hc4
      have q2 : IntKind.i64.wrap (4 + (m : Int)) = 4 + (m : Int) := IntWalk.i64_in _ (by omega)
      have q5 : (4 + (m : Int)).toNat = 4 + m := by omega
      have q7 : 4 + (m : Int) ≤ (c1 : Int) := by omega
      have q8 : 4 + (m : Int) ≤ (r : Int) := by omega
      have q9 : 0 ≤ 4 + (m : Int) := by omega
      have three : (c1 = 4 ∧ r ≤ 4 ∧ m = 0) ∨ (¬ c1 = 4 ∧ c1 = 4 + m ∧ r ≤ 4 + m) ∨ (¬ c1 = 4 ∧ ¬ c1 = 4 + m) := by omega
      rcases three with ⟨rfl, hr4', rfl⟩ | ⟨e1, rfl, hr4'⟩ | ⟨e1, e2⟩
      · have HBR : Hid (Rd w1 (some ⟨b1, o1, none⟩) 0 (by8 body)) := hc4
        have HTR : Hid (Rd w1 (some ⟨b1, o1, none⟩) 0 (by8 tl)) := by
          have h0 : Rd w1 (some ⟨b1, o1, none⟩) (r - 4) (by8 tl) := hc5
          show Rd _ _ _ _
          rwa [show r - 4 = 0 from by omega] at h0
        have HTLL0 : Hid (tl.length = 0) := by have h0 : tl.length = r - 4 := HTLL.out; show _ = _; omega
        have hw4 : IntKind.i64.wrap 4 = 4 := by decide
        have hrr : (4 : Int) ≤ (r : Int) := by omega
        clear hc4 hc5 hr1
        go_wp2_with fail
        refine (putFrameR_nil (some ⟨b1, o1, none⟩) 0 _ body F HFF.out _ HBR.out (by omega)).mono ?_
        rintro e w2 ⟨A2, c2, rfl, ho2, hb2⟩
        have HB2 := Lib.hid hb2
        have hFr := Rd.of_own ho2
        have hGr : Rd w2 A F.length (by8 G) := by
          rw [← HGG.out, by8_take]
          exact ((HH.out.mod0 (Mod.of_below HB1.out)).mod0 (Mod.of_below hb2)).take hFl
        have h1 := fun j => conv_str (P := Tryz.prog) (w2.drewN j) 31 9 5 A2 F.length c2 F Tryz.underlying31 Tryz.underlying5 Tryz.underlying9 (hFr.drewN j)
        have h2 := fun j => conv_str (P := Tryz.prog) (w2.drewN j) 31 9 5 A F.length c G Tryz.underlying31 Tryz.underlying5 Tryz.underlying9 (hGr.drewN j)
        have hfc : (F.length : Int) ≤ (c : Int) := by omega
        have hf0 : (0 : Int) ≤ (F.length : Int) := by omega
        have hsz2 := hb2.size
        clear ho2 hb2 hFr hGr
        by_cases he : F = G
        · have HV := Lib.hid (T1.out he)
          subst he
          go_wp2_with fail
          go_quiet (fail)
          clear h1 h2
          go_wp2_with fail
          go_quiet (fail)
          clear q2 q5 q7 q8 q9
          go_wp2_with fail
          go_ret3
          exact tfq_some HV.out HBL.out HTLL0.out (((HBR.out.mod0 (Mod.of_below HB2.out)).drewN _).drewN _) (fun b hb => by cases hb; exact hbb) (by omega) (by omega) (((HTR.out.mod0 (Mod.of_below HB2.out)).drewN _).drewN _) (fun b hb => by cases hb; exact hbb) (by omega) (by omega) (below_drewN' (below_drewN' (HB1.out.trans (HB2.out.mono hsz1)) _) _)
        · have HV := Lib.hid (T2.out he)
          have hs2 : (F == G) = false := beq_eq_false_iff_ne.2 he
          clear he
          go_wp2_with fail
          go_quiet (fail)
          clear h1 h2
          go_wp2_with fail
          go_ret3
          exact tfq_none HV.out (below_drewN' (HB1.out.trans (HB2.out.mono hsz1)) _)
      · rw [if_neg e1] at hc4
        rw [if_pos rfl] at hc5
        have HBR : Hid (Rd w1 (some ⟨b1, o1 + 4, none⟩) m (by8 body)) := hc4
        have HTR : Hid (Rd w1 (some ⟨b1, o1, none⟩) 0 (by8 tl)) := by
          have h0 : Rd w1 (some ⟨b1, o1, none⟩) (r - (4 + m)) (by8 tl) := hc5
          show Rd _ _ _ _
          rwa [show r - (4 + m) = 0 from by omega] at h0
        have HTLL0 : Hid (tl.length = 0) := by have h0 := HTLL.out; show _ = _; omega
        clear hc4 hc5 hr1
        go_wp2_with fail
        refine (putFrameR_nil (some ⟨b1, o1 + 4, none⟩) m _ body F HFF.out _ HBR.out (by omega)).mono ?_
        rintro e w2 ⟨A2, c2, rfl, ho2, hb2⟩
        have HB2 := Lib.hid hb2
        have hFr := Rd.of_own ho2
        have hGr : Rd w2 A F.length (by8 G) := by
          rw [← HGG.out, by8_take]
          exact ((HH.out.mod0 (Mod.of_below HB1.out)).mod0 (Mod.of_below hb2)).take hFl
        have h1 := fun j => conv_str (P := Tryz.prog) (w2.drewN j) 31 9 5 A2 F.length c2 F Tryz.underlying31 Tryz.underlying5 Tryz.underlying9 (hFr.drewN j)
        have h2 := fun j => conv_str (P := Tryz.prog) (w2.drewN j) 31 9 5 A F.length c G Tryz.underlying31 Tryz.underlying5 Tryz.underlying9 (hGr.drewN j)
        have hfc : (F.length : Int) ≤ (c : Int) := by omega
        have hf0 : (0 : Int) ≤ (F.length : Int) := by omega
        have hsz2 := hb2.size
        clear ho2 hb2 hFr hGr
        by_cases he : F = G
        · have HV := Lib.hid (T1.out he)
          subst he
          go_wp2_with fail
          go_quiet (fail)
          clear h1 h2
          go_wp2_with fail
          go_quiet (fail)
          clear q2 q5 q7 q8 q9
          go_wp2_with fail
          go_ret3
          exact tfq_some HV.out HBL.out HTLL0.out (((HBR.out.mod0 (Mod.of_below HB2.out)).drewN _).drewN _) (fun b hb => by cases hb; exact hbb) (by omega) (by omega) (((HTR.out.mod0 (Mod.of_below HB2.out)).drewN _).drewN _) (fun b hb => by cases hb; exact hbb) (by omega) (by omega) (below_drewN' (below_drewN' (HB1.out.trans (HB2.out.mono hsz1)) _) _)
        · have HV := Lib.hid (T2.out he)
          have hs2 : (F == G) = false := beq_eq_false_iff_ne.2 he
          clear he
          go_wp2_with fail
          go_quiet (fail)
          clear h1 h2
          go_wp2_with fail
          go_ret3
          exact tfq_none HV.out (below_drewN' (HB1.out.trans (HB2.out.mono hsz1)) _)
      · rw [if_neg e1] at hc4
        rw [if_neg e2] at hc5
        have HBR : Hid (Rd w1 (some ⟨b1, o1 + 4, none⟩) m (by8 body)) := hc4
        have HTR : Hid (Rd w1 (some ⟨b1, o1 + (4 + m), none⟩) (r - (4 + m)) (by8 tl)) := by
          have := hc5
          simp only [Option.map_some, Addr.add] at this
          show Rd _ _ _ _
          rwa [if_neg (by omega)] at this
        clear hc4 hc5 hr1
        go_wp2_with fail
        refine (putFrameR_nil (some ⟨b1, o1 + 4, none⟩) m _ body F HFF.out _ HBR.out (by omega)).mono ?_
        rintro e w2 ⟨A2, c2, rfl, ho2, hb2⟩
        have HB2 := Lib.hid hb2
        have hFr := Rd.of_own ho2
        have hGr : Rd w2 A F.length (by8 G) := by
          rw [← HGG.out, by8_take]
          exact ((HH.out.mod0 (Mod.of_below HB1.out)).mod0 (Mod.of_below hb2)).take hFl
        have h1 := fun j => conv_str (P := Tryz.prog) (w2.drewN j) 31 9 5 A2 F.length c2 F Tryz.underlying31 Tryz.underlying5 Tryz.underlying9 (hFr.drewN j)
        have h2 := fun j => conv_str (P := Tryz.prog) (w2.drewN j) 31 9 5 A F.length c G Tryz.underlying31 Tryz.underlying5 Tryz.underlying9 (hGr.drewN j)
        have hfc : (F.length : Int) ≤ (c : Int) := by omega
        have hf0 : (0 : Int) ≤ (F.length : Int) := by omega
        have hsz2 := hb2.size
        clear ho2 hb2 hFr hGr
        by_cases he : F = G
        · have HV := Lib.hid (T1.out he)
          subst he
          go_wp2_with fail
          go_quiet (fail)
          clear h1 h2
          go_wp2_with fail
          go_quiet (fail)
          clear q2 q5 q7 q8 q9
          go_wp2_with fail
          go_ret3
          exact tfq_some HV.out HBL.out HTLL.out (((HBR.out.mod0 (Mod.of_below HB2.out)).drewN _).drewN _) (fun b hb => by cases hb; exact hbb) (by omega) (by omega) (((HTR.out.mod0 (Mod.of_below HB2.out)).drewN _).drewN _) (fun b hb => by cases hb; exact hbb) (by omega) (by omega) (below_drewN' (below_drewN' (HB1.out.trans (HB2.out.mono hsz1)) _) _)
        · have HV := Lib.hid (T2.out he)
          have hs2 : (F == G) = false := beq_eq_false_iff_ne.2 he
          clear he
          go_wp2_with fail
          go_quiet (fail)
          clear h1 h2
          go_wp2_with fail
          go_ret3
          exact tfq_none HV.out (below_drewN' (HB1.out.trans (HB2.out.mono hsz1)) _)

end Go.Proofs.YtgdamcimpgapgaaGreatDoor

/- sawyerref05: Need, Drop, Replay. -/
namespace Go.Proofs.YtgdamcimpgapgaaGreatDoor
open Go.RowKit

set_option maxRecDepth 100000 in
set_option maxHeartbeats 800000 in
theorem needR_any (E : Nat → Prop) (r : Nat) (D : Dk) (n : Int) (A : Option Addr) (m c : Nat) (b : List UInt8) (w : World) (h : RkIs w E r D) (nd : (D.files.map (·.name)).Nodup) (g : Rd w A m (by8 b)) (hm : m ≤ 140737488351232) :
    Calls Tryz.prog 51 #[.pointer (some ⟨r, 0, none⟩), .int .i64 n, .slice A m c] w fun e w' => e = .returned (.int .i64 (needW D n b)) ∧ Mod Non w w' := by
  have hnl : (frameB b).length ≤ 140737488355328 := by
    have hbl : b.length = m := by simpa using g.1
    have h9 := numB_len9 (n := b.length) (by omega)
    unfold frameB
    simp only [List.length_append, high4, List.length_cons, List.length_nil]
    omega
  have hns := nameW_size n
  obtain ⟨x, hx⟩ : ∃ x, (findF D.files (nameW n)).isSome = x := ⟨_, rfl⟩
  have HX := Lib.hid hx
  have HN : Hid (needW D n b = if x = true then ((frameB b).length : Int) else (frameB b).length + 16 + (nameW n).size) := by show needW D n b = _; unfold needW; rw [hx]
  clear hx
  have HH := Lib.hid h
  have HND := Lib.hid nd
  obtain ⟨F, hF⟩ : ∃ F, frameB b = F := ⟨_, rfl⟩
  have HFF := Lib.hid hF
  rw [hF] at hnl HN
  clear hF h nd
  cases x
  all_goals
    go_enter Tryz.func51, Tryz.ntmps51
    go_wp2_with fail
    refine (putFrameR_nil A m c b F HFF.out _ g (by omega)).mono ?_
    rintro e w1 ⟨A1, c1, rfl, ho1, hb1⟩
    have hm1 : Mod Non w w1 := Mod.of_below hb1
    clear ho1 hb1
    go_wp2_with fail
    refine (nameR_any n _).mono ?_
    rintro e w2 ⟨rfl, hm2⟩
    have hm12 := hm1.trans0 hm2
    clear hm2
    go_wp2_with fail
    refine (hasR_any (nameW n) E r D _ (HH.out.mod0 hm12) HND.out).mono ?_
    rintro e w3 ⟨rfl, hw3⟩
    have hw3' := hw3.symm
    subst hw3'
    rw [HX.out]
    go_wp2_with (go_at_call 18; refine (nameR_any n _).mono ?_; rintro e w4 ⟨rfl, hm4⟩)
    go_ret
    first
      | exact ⟨by rw [HN.out]; rfl, hm12⟩
      | exact ⟨by rw [HN.out]; rfl, hm12.trans0 hm4⟩

set_option maxRecDepth 100000 in
set_option maxHeartbeats 400000 in
theorem dropF_any (E : Nat → Prop) (r : Nat) (D : Dk) (n : Int) (w : World) (h : RkIs w E r D) (ok : DkOk D) :
    Calls Tryz.prog 46 #[.pointer (some ⟨r, 0, none⟩), .int .i64 n] w (RkPost E r (dropD D n) (.int .i64 (dropE D n)) w) := by
  have HH := Lib.hid h
  have HO := Lib.hid ok
  have hns := nameW_size n
  clear h ok
  by_cases hr : 0 ≤ n ∧ n ≤ 1099511627776
  · have HRT : Hid (rightB n = true) := decide_eq_true hr
    have HV : Hid (dropD D n = removeD D (nameW n) ∧ dropE D n = removeE D (nameW n)) := ⟨by unfold dropD; rw [if_pos hr], by unfold dropE; rw [if_pos hr]⟩
    rw [HV.out.1, HV.out.2]
    obtain ⟨D', hD'⟩ : ∃ D', removeD D (nameW n) = D' := ⟨_, rfl⟩
    obtain ⟨E', hE'⟩ : ∃ E', removeE D (nameW n) = E' := ⟨_, rfl⟩
    rw [hD', hE']
    have HD := Lib.hid hD'
    have HE := Lib.hid hE'
    clear hr HV hD' hE'
    go_enter Tryz.func46, Tryz.ntmps46
    go_wp2_with fail
    refine (rightF_any n _).mono ?_
    rw [HRT.out]
    rintro e w1 ⟨rfl, rfl⟩
    go_wp2_with fail
    refine (nameR_any n _).mono ?_
    rintro e w2 ⟨rfl, hm2⟩
    have HM2 := Lib.hid hm2
    clear hm2
    go_wp2_with fail
    refine (removeR_any (nameW n) E r D _ (HH.out.mod0 HM2.out) HO.out (by omega)).mono ?_
    rw [HD.out, HE.out]
    rintro e w3 ⟨rfl, E3, h3, hm3, hE3⟩
    have H3 := Lib.hid h3
    have HM3 := Lib.hid hm3
    have HE3 := Lib.hid hE3
    clear h3 hm3 hE3
    go_wp2_with fail
    go_ret
    exact ⟨rfl, E3, H3.out, HM2.out.non.trans HM3.out fun k hk => .inl hk, fun k hk => (HE3.out k hk).imp id fun h => Nat.le_trans HM2.out.size h⟩
  · have HRT : Hid (rightB n = false) := decide_eq_false hr
    have HV : Hid (dropD D n = D ∧ dropE D n = 1) := ⟨by unfold dropD; rw [if_neg hr], by unfold dropE; rw [if_neg hr]⟩
    rw [HV.out.1, HV.out.2]
    clear hr
    go_enter Tryz.func46, Tryz.ntmps46
    go_wp2_with fail
    refine (rightF_any n _).mono ?_
    rw [HRT.out]
    rintro e w1 ⟨rfl, rfl⟩
    go_wp2_with fail
    go_ret
    exact ⟨rfl, E, HH.out, Mod.refl _ _, fun k hk => .inl hk⟩

set_option maxRecDepth 100000 in
set_option maxHeartbeats 1000000 in
theorem replayR_yes (E : Nat → Prop) (r : Nat) (D : Dk) (n : Int) (w : World) (h : RkIs w E r D) (ok : DkOk D) (hn : 0 ≤ n ∧ n ≤ 1099511627776) :
    Calls Tryz.prog 45 #[.pointer (some ⟨r, 0, none⟩), .int .i64 n] w (RpPost D n w) := by
  have HH := Lib.hid h
  have HO := Lib.hid ok
  have HRT : Hid (rightB n = true) := decide_eq_true hn
  have HNM := Lib.hid (nameW_named hn.1 hn.2)
  have hsz := nameW_size n
  clear h ok
  cases hf : findF D.files (nameW n) with
  | none =>
    have HF := Lib.hid hf
    clear hf
    go_enter Tryz.func45, Tryz.ntmps45
    go_wp2_with (first
      | (go_at_call 53; refine (rightF_any n _).mono ?_; rw [HRT.out]; rintro e w2 ⟨rfl, rfl⟩)
      | (go_at_call 18; refine (nameR_any n _).mono ?_; rintro e w3 ⟨rfl, hm13⟩)
      | (go_at_call 86
         refine (readR_any (nameW n) E r D _ (HH.out.mod0 hm13) HO.out (by omega)).mono ?_
         rintro e w4 hp
         unfold RdPost at hp
         rw [if_pos HNM.out, HF.out] at hp
         obtain ⟨rfl, hm4⟩ := hp))
    go_ret2
    unfold RpPost
    rw [if_pos hn, HF.out]
    exact ⟨rfl, hm13.trans0 hm4⟩
  | some f =>
    have HF := Lib.hid hf
    have hfl : f.bytes.length ≤ 1099511627776 := by
      have hc := find_cost hf
      have h1 := HO.out.us; have h2 := HO.out.u1; have h3 := HO.out.n1
      unfold costF at hc
      omega
    clear hf
    obtain ⟨n0, hn0⟩ : ∃ n0, f.bytes.length = n0 := ⟨_, rfl⟩
    have HN0 := Lib.hid hn0
    rw [hn0] at hfl
    clear hn0
    go_enter Tryz.func45, Tryz.ntmps45
    go_wp2_with (first
      | (go_at_call 53; refine (rightF_any n _).mono ?_; rw [HRT.out]; rintro e w2 ⟨rfl, rfl⟩)
      | (go_at_call 18; refine (nameR_any n _).mono ?_; rintro e w3 ⟨rfl, hm13⟩)
      | (go_at_call 86
         refine (readR_any (nameW n) E r D _ (HH.out.mod0 hm13) HO.out (by omega)).mono ?_
         rintro e w4 hp
         unfold RdPost at hp
         rw [if_pos HNM.out, HF.out] at hp
         dsimp only at hp
         rw [HN0.out] at hp
         obtain ⟨A4, c4, rfl, ho4, hm4⟩ := hp))
    have hm14 := hm13.trans0 hm4
    obtain ⟨_, _, hv, hnc, hcm⟩ := own_slice ho4
    cases hv
    have hr4 := Rd.of_own ho4
    have hb4 := own_base ho4
    have hsz3 := hm13.size
    have hmx : maxLen = 9223372036854775807 := rfl
    rw [hmx] at hcm
    have _t22 := rowT
    have HM14 := Lib.hid hm14
    go_loopw [6, 8, 9, 10, 11] (fun b out _ _ _ wr => ∃ (B : Option Addr) (m k : Nat) (l : List UInt8) (xs : List Bs), b = .slice B m k ∧ RdO wr (fun g => out.ownBlock = some g) B m (by8 l) ∧ m ≤ k ∧ k ≤ 9223372036854775807 ∧ xs.length + m ≤ n0 ∧
        wr.ownsRow w.heap.size 31 1 out xs.length (xs.map Bs.val) ∧ (∀ x ∈ xs, RdO wr (fun g => out.ownBlock = some g) x.A x.n (by8 x.l) ∧ (∀ g, blkOf x.A = some g → w.heap.size ≤ g) ∧ x.n ≤ x.c ∧ x.c ≤ 9223372036854775807) ∧
        Hid (replayB f.bytes = xs.map (·.l) ++ replayB l) ∧ Mod Non w wr) (fun b _ _ _ _ _ => lenOf b)
    case atStart => exact ⟨A4, n0, c4, f.bytes, [], rfl, ⟨hr4, fun _ _ _ h => by simp [Value.ownBlock] at h⟩, hnc, hcm, by simp, World.ownsRow_nil _ _ _ _, by simp, rfl, hm14⟩
    case round =>
      obtain ⟨B, m, k, l, xs, rfl, hrBO, hmk, hkm, hlen, hown, hxs, HR, hmod⟩ := hrel
      have HMO := Lib.hid hmod
      have hrB := hrBO.1
      clear hrBO hm13 ho4 hm4 hm14 hr4 hb4 hmod
      have hsz := HMO.out.size
      obtain ⟨Ao, co, rfl, hco, hco2⟩ := own_slice hown
      rcases htf : takeFrame l 1048576 with _ | ⟨body, rest⟩
      · have HTF := Lib.hid htf
        clear htf
        go_wp2_with (go_at_call 87
                     refine (takeFrameR_any B m k l 1048576 _ hrB hmk (by omega) hkm).mono ?_
                     rintro e w5 hp
                     unfold TfqPost at hp
                     rw [HTF.out] at hp
                     obtain ⟨rfl, hb5⟩ := hp)
        go_ret2
        have hm5 : Mod Non wr w5 := Mod.of_below hb5
        unfold RpPost
        rw [if_pos hn, HF.out]
        refine ⟨Ao, xs.length, co, xs, rfl, ⟨(Rd.of_own hown).mod0 hm5, own_base hown, hco, hco2, fun x hx => ?_⟩, ?_, HMO.out.trans0 hm5⟩
        · obtain ⟨h1, h2, h3, h4⟩ := hxs x hx
          exact ⟨h1.1.mod0 hm5, h2, h3, h4⟩
        · rw [HR.out, replayB_none HTF.out, List.append_nil]
      · have HTF := Lib.hid htf
        have hlt := takeFrame_lt htf
        have hll : l.length = m := by simpa using hrB.1
        have HR2 : Hid (replayB f.bytes = (xs.map (·.l) ++ [body]) ++ replayB rest) := by
          show replayB f.bytes = _
          rw [HR.out, replayB_some htf, List.append_assoc]; rfl
        clear htf HR
        rw [hll] at hlt
        have HLL := Lib.hid hll
        clear hll
        obtain ⟨bn, hbn⟩ : ∃ bn, body.length = bn := ⟨_, rfl⟩
        obtain ⟨rn, hrn⟩ : ∃ rn, rest.length = rn := ⟨_, rfl⟩
        have HBN := Lib.hid hbn
        have HRN := Lib.hid hrn
        rw [hbn, hrn] at hlt
        clear hbn hrn
        go_wp2_with (first
          | (go_at_call 87
             refine (takeFrameR_any B m k l 1048576 _ hrB hmk (by omega) hkm).mono ?_
             rintro e w5 hp
             unfold TfqPost at hp
             rw [HTF.out] at hp
             dsimp only at hp
             rw [HBN.out, HRN.out] at hp
             obtain ⟨A5, c5, B5, d5, rfl, ho5, hoo5, hnn5, hcc5, hr5, hob5, hn5, hd5, hb5⟩ := hp
             have hown5 := own_mod (S := Non) hown (Mod.of_below hb5) (fun _ _ h => h)
             have HONE := Lib.hid (one_row w5 31 ⟨A5, bn, c5, body⟩)
             have hsz5 := hb5.size)
          | (at_builtin
             refine wpList_appS Tryz.underlying34 rowT _ rfl (.tmp 34) (.tmp 36) rfl w.heap.size (.slice Ao xs.length co) xs.length xs rfl (hown5.alloc _) _ 1 1 [⟨A5, bn, c5, body⟩] rfl HONE.out (by omega) (by simp; omega) ?_
             intro A' c' w' hc' hcm' hown' hg' hat'))
        have hlt2 := hown.lt
        have hS : ∀ g, (Value.slice Ao xs.length co).ownBlock = some g → g < wr.heap.size := fun g hg => (hlt2 g hg).2
        have hm5 : Mod Non wr w5 := Mod.of_below hb5
        have hmg : Mod (fun g => (Value.slice Ao xs.length co).ownBlock = some g) (w5.alloc (.cells #[.slice A5 bn c5] 31)) w' := Mod.of_grown hg' fun _ h => h
        have hnew : ∀ g, (Value.slice A' (xs.length + 1) c').ownBlock = some g → (Value.slice Ao xs.length co).ownBlock = some g ∨ (w5.alloc (.cells #[.slice A5 bn c5] 31)).heap.size ≤ g := fun g hg => by
          have hg2 : blkOf A' = some g := by cases A' <;> exact hg
          rcases hat' with h | h
          · rw [h] at hg2; exact .inl hg2
          · rw [h] at hg2; cases hg2; exact .inr (Nat.le_refl _)
        go_roundw
        case rel =>
          refine ⟨B5, rn, d5, rest, xs ++ [⟨A5, bn, c5, body⟩], rfl, RdO.next (RdO.alloc ⟨hr5, fun _ g hg h => by have := hob5 g hg; have := hS g h; omega⟩ _) hmg hnew, hn5, hd5, by simp; omega, by simpa using hown', ?_, ?_, ?_⟩
          · intro x hx
            rcases List.mem_append.1 hx with hx | hx
            · obtain ⟨h1, h2, h3, h4⟩ := hxs x hx
              exact ⟨RdO.next ((h1.mod0 hm5).alloc _) hmg hnew, h2, h3, h4⟩
            · simp only [List.mem_singleton] at hx
              subst hx
              exact ⟨RdO.next (RdO.alloc ⟨ho5, fun _ g hg h => by have := hoo5 g hg; have := hS g h; omega⟩ _) hmg hnew, fun g hg => by have := hoo5 g hg; omega, hnn5, hcc5⟩
          · show replayB f.bytes = _
            rw [HR2.out]; simp
          · refine ((HMO.out.trans0 hm5).alloc _).trans hmg fun g hg => .inr (hlt2 g hg).1
        case measure => simp only [lenOf]; exact hlt.1

set_option maxRecDepth 100000 in
theorem replayR_any (E : Nat → Prop) (r : Nat) (D : Dk) (n : Int) (w : World) (h : RkIs w E r D) (ok : DkOk D) :
    Calls Tryz.prog 45 #[.pointer (some ⟨r, 0, none⟩), .int .i64 n] w (RpPost D n w) := by
  by_cases hn : 0 ≤ n ∧ n ≤ 1099511627776
  · exact replayR_yes E r D n w h ok hn
  · have HRT : Hid (rightB n = false) := decide_eq_false hn
    have HP : Hid (∀ e w', (e = .returned (.tuple #[.slice none 0 0, .int .i64 1]) ∧ Mod Non w w') → RpPost D n w e w') := fun e w' h => by unfold RpPost; rw [if_neg hn]; exact h
    clear hn h ok
    go_enter Tryz.func45, Tryz.ntmps45
    go_wp2_with fail
    refine (rightF_any n _).mono ?_
    rw [HRT.out]
    rintro e w1 ⟨rfl, rfl⟩
    go_wp2_with fail
    go_ret2
    exact HP.out _ _ ⟨rfl, Mod.refl _ _⟩

end Go.Proofs.YtgdamcimpgapgaaGreatDoor

/- sawyerref05: Add. -/
namespace Go.Proofs.YtgdamcimpgapgaaGreatDoor
open Go.RowKit

theorem appAll_fail {nm : ByteArray} {D : Dk} {b : List UInt8} {l : List (List UInt8)} (h : appendE D nm b ≠ 0) : appAll nm D (b :: l) = (appendD D nm b, appendE D nm b) := by
  have e : appStep nm (D, 0) b = (appendD D nm b, appendE D nm b) := by unfold appStep; rw [if_pos rfl]
  unfold appAll
  rw [List.foldl_cons, e]
  exact appStep_stop h l
theorem pieces_at {F : List UInt8} {i : Nat} (h : i < F.length) : piecesB (F.drop i) = (F.drop i).take 4096 :: piecesB (F.drop (i + 4096)) := by
  rw [piecesB, dif_neg (by simp; omega), List.drop_drop]
theorem pieces_end {F : List UInt8} {i : Nat} (h : F.length ≤ i) : piecesB (F.drop i) = [] := by
  rw [piecesB, dif_pos (by simp; omega)]

/-- between two rounds of Add. -/
structure AdM (w : World) (E : Nat → Prop) (r : Nat) (D : Dk) (nm : ByteArray) (F : List UInt8) (i : Nat) (Ei : Nat → Prop) (Di : Dk) (w0 wr : World) : Prop where
  disk : RkIs wr Ei r Di
  ok : DkOk Di
  eq : appAll nm D (piecesB F) = appAll nm Di (piecesB (F.drop i))
  mod : Mod (fun k => k = r) w0 wr
  foot : ∀ k, Ei k → E k ∨ w.heap.size ≤ k

set_option maxRecDepth 100000 in
set_option maxHeartbeats 1000000 in
theorem addR_any (E : Nat → Prop) (r : Nat) (D : Dk) (n : Int) (A : Option Addr) (m c : Nat) (b : List UInt8) (w : World) (h : RkIs w E r D) (ok : DkOk D) (g : Rd w A m (by8 b)) (hm : m ≤ 9223372036854775807) :
    Calls Tryz.prog 52 #[.pointer (some ⟨r, 0, none⟩), .int .i64 n, .slice A m c] w (RkPost E r (addB D n b).1 (.int .i64 (addB D n b).2) w) := by
  have hbl : b.length = m := by simpa using g.1
  have hns := nameW_size n
  have HH := Lib.hid h
  have HO := Lib.hid ok
  have HG := Lib.hid g
  have HBL := Lib.hid hbl
  obtain ⟨D', hD'⟩ : ∃ D', (addB D n b).1 = D' := ⟨_, rfl⟩
  obtain ⟨E', hE'⟩ : ∃ E', (addB D n b).2 = E' := ⟨_, rfl⟩
  rw [hD', hE']
  have HDV : Hid (addB D n b = (D', E')) := by show _ = _; rw [← hD', ← hE']
  clear hD' hE' g hbl h ok
  by_cases hr : 0 ≤ n ∧ n ≤ 1099511627776
  · have HRT : Hid (rightB n = true) := decide_eq_true hr
    by_cases hbig : m ≤ 1048576
    · have hV : addB D n b = if D.off = true then (D, 5) else if D.n - D.used < needW D n b then (D, 4) else
          if (appAll (nameW n) D (piecesB (frameB b))).2 = 0 then (syncD (appAll (nameW n) D (piecesB (frameB b))).1 (nameW n), syncE (appAll (nameW n) D (piecesB (frameB b))).1 (nameW n)) else appAll (nameW n) D (piecesB (frameB b)) := by
        unfold addB; rw [if_pos ⟨hr.1, hr.2, by rw [HBL.out]; exact hbig⟩]
      rw [HDV.out] at hV
      have HV := Lib.hid hV
      have hnm := nameW_named hr.1 hr.2
      have HNM := Lib.hid hnm
      clear hV hr hnm
      obtain ⟨B, Ar, nr, cr, xs, h1, hE, hBE, hEl⟩ := HH.out
      have c4 : w.cell? ⟨r, 4, none⟩ = some (.bool D.off) := h1.blk.cell 4
      have hrl := h1.blk.lt
      cases hoff : D.off with
      | true =>
        have HV2 : Hid (D' = D ∧ E' = 5) := by
          have := HV.out
          rw [if_pos hoff] at this
          exact ⟨congrArg Prod.fst this, congrArg Prod.snd this⟩
        rw [hoff] at c4
        clear hoff h1 HV
        go_enter Tryz.func52, Tryz.ntmps52
        go_wp2_with fail
        refine (rightF_any n _).mono ?_
        rw [HRT.out]
        rintro e w1 ⟨rfl, rfl⟩
        go_wp2_with fail
        go_ret
        exact ⟨by rw [HV2.out.2]; rfl, E, by rw [HV2.out.1]; exact HH.out, Mod.refl _ _, fun k hk => .inl hk⟩
      | false =>
        have HFR := Lib.hid (freeR_any B r D Ar nr cr xs w h1 HO.out.n0 HO.out.n1 (by rw [HO.out.us]; have := HO.out.u1; have := HO.out.n1; omega))
        rw [HO.out.us] at HFR
        have n0 := HO.out.n0
        have n1 := HO.out.n1
        have u0 := HO.out.u0
        have u1 := HO.out.u1
        rw [hoff] at c4
        have HOFF := Lib.hid hoff
        obtain ⟨nd, hnd⟩ : ∃ nd, needW D n b = nd := ⟨_, rfl⟩
        have HND := Lib.hid hnd
        clear hoff h1 hnd
        go_enter Tryz.func52, Tryz.ntmps52
        go_wp2_with fail
        refine (rightF_any n _).mono ?_
        rw [HRT.out]
        rintro e w1 ⟨rfl, rfl⟩
        go_wp2_with fail
        refine HFR.out.mono ?_
        rintro e w1 ⟨rfl, q1, rfl⟩
        go_wp2_with fail
        refine (needR_any E r D n A m c b _ (HH.out.mod0 ((Mod.refl Non w).drewN q1)) HO.out.nd (HG.out.drewN q1) (by omega)).mono ?_
        rw [HND.out]
        rintro e w2 ⟨rfl, hm2⟩
        have HM2 := Lib.hid (((Mod.refl Non w).drewN q1).trans0 hm2)
        clear hm2
        by_cases hsp : D.n - D.used < nd
        · have HV2 : Hid (D' = D ∧ E' = 4) := by
            have := HV.out
            rw [if_neg (by rw [HOFF.out]; simp), if_pos (by rw [HND.out]; exact hsp)] at this
            exact ⟨congrArg Prod.fst this, congrArg Prod.snd this⟩
          go_wp2_with fail
          go_ret
          exact ⟨by rw [HV2.out.2]; rfl, E, by rw [HV2.out.1]; exact HH.out.mod0 HM2.out, HM2.out.non, fun k hk => .inl hk⟩
        · obtain ⟨F, hF⟩ : ∃ F, frameB b = F := ⟨_, rfl⟩
          have hV2 := HV.out
          rw [if_neg (by rw [HOFF.out]; simp), if_neg (by rw [HND.out]; exact hsp), hF] at hV2
          have HV2 := Lib.hid hV2
          have hFl : F.length ≤ 1048600 := by
            have h9 := numB_len9 (n := b.length) (by rw [HBL.out]; omega)
            have := HBL.out
            rw [← hF]
            unfold frameB
            simp only [List.length_append, high4, List.length_cons, List.length_nil]
            omega
          have HFF := Lib.hid hF
          clear hF hV2 HV
          go_wp2_with fail
          refine (putFrameR_nil A m c b F HFF.out _ (HG.out.mod0 HM2.out) (by omega)).mono ?_
          rintro e w3 ⟨A3, c3, rfl, ho3, hb3⟩
          have HM3 := Lib.hid (HM2.out.trans0 (Mod.of_below hb3))
          obtain ⟨_, _, hv3, hc3, hc3m⟩ := own_slice ho3
          cases hv3
          have hb3b := own_base ho3
          have HF3 := Lib.hid (Rd.of_own ho3)
          have HB3 := Lib.hid hb3b
          have hs2 := HM2.out.size
          have hmx : maxLen = 9223372036854775807 := rfl
          rw [hmx] at hc3m
          clear ho3 hb3 hb3b hmx
          go_wp2_with fail
          go_loopw [8, 9] (fun v _ wr => ∃ (i : Nat) (Ei : Nat → Prop) (Di : Dk), i ≤ F.length + 4096 ∧ v = .int .i64 i ∧ Hid (AdM w E r D (nameW n) F i Ei Di w3 wr)) (fun v _ _ => F.length - (intOf v).toNat)
          case atStart => exact ⟨0, E, D, by omega, rfl, ⟨HH.out.mod0 HM3.out, HO.out, by rw [List.drop_zero], Mod.refl _ _, fun k hk => .inl hk⟩⟩
          case round =>
            obtain ⟨i, Ei, Di, hi, rfl, HP⟩ := hrel
            by_cases hlt : i < F.length
            · obtain ⟨J, hJ⟩ : ∃ J : Nat, min F.length (i + 4096) = J := ⟨_, rfl⟩
              have hJ1 : i ≤ J ∧ J ≤ F.length ∧ J ≤ i + 4096 := by omega
              have hmin : min (F.length : Int) ((i : Int) + 4096) = (J : Int) := by omega
              have hcut := ((HF3.out.mod HP.out.mod fun _ g hg e => by have := HB3.out g hg; omega).cut (k := i) (cap := c3) (by omega) hc3).take (k := J - i) (by omega)
              rw [if_neg (by omega), ← by8_drop, ← by8_take] at hcut
              have hpc : (F.drop i).take (J - i) = (F.drop i).take 4096 := by
                by_cases h4 : i + 4096 ≤ F.length
                · rw [show J - i = 4096 by omega]
                · rw [List.take_of_length_le (by simp; omega), List.take_of_length_le (by simp; omega)]
              rw [hpc] at hcut
              obtain ⟨p, hp⟩ : ∃ p, (F.drop i).take 4096 = p := ⟨_, rfl⟩
              rw [hp] at hcut
              obtain ⟨A3b, hA3⟩ : ∃ a, A3 = some a := by
                cases A3 with
                | none => exact absurd (HF3.out.2 (by omega)) (by rintro ⟨_, _, h, _⟩; cases h)
                | some a => exact ⟨a, rfl⟩
              subst hA3
              have hoff2 : ∀ g, blkOf ((some A3b : Option Addr).map (·.add i)) = some g → g ≠ r := fun g hg e => by
                have : blkOf (some A3b) = some g := by
                  simp only [blkOf, Option.map_some, Addr.add] at hg ⊢
                  split at hg <;> exact hg
                have := HB3.out g this
                omega
              have HCUT := Lib.hid (show RdO wr (fun k => k = r) _ _ _ from ⟨hcut, fun _ g hg e => hoff2 g hg e⟩)
              have heq := HP.out.eq
              rw [pieces_at hlt, hp] at heq
              have HEQ := Lib.hid heq
              have i0 : (0 : Int) ≤ (i : Int) := by omega
              have i1 : (J : Int) ≤ (c3 : Int) := by omega
              have i2 : (i : Int) ≤ (J : Int) := by omega
              have i3 : (J : Int) ≤ (F.length : Int) := by omega
              obtain ⟨q1w⟩ : Nonempty (IntKind.i64.wrap ((i : Int) + 4096) = (i : Int) + 4096) := ⟨IntWalk.i64_in _ (by omega)⟩
              clear hJ hcut hpc hp hoff2 heq
              go_wp2_with fail
              have tok : True := trivial
              have hci : ¬ (c3 = i) := by omega
              go_region_held3 (fun _ => True) (exact trivial)
                (first
                  | (go_at_call 18
                     refine (nameR_any n _).mono ?_
                     rintro e w5 ⟨rfl, hm5⟩
                     have HM5 := Lib.hid (((Mod.refl Non wr).drew).trans0 hm5)
                     clear hm5)
                  | (go_at_call 90
                     refine (appendR_any (nameW n) _ (J - i) _ p Ei r Di _ (HP.out.disk.mod0 HM5.out) HP.out.ok (HCUT.out.mod0 HM5.out) (by omega) (by omega)).mono ?_
                     rintro e w6 ⟨rfl, E6, h6, hm6, hE6⟩
                     have H6 := Lib.hid h6
                     have HM6 := Lib.hid (HM5.out.non.trans hm6 (S := fun k => k = r) fun k hk => .inl hk)
                     have HE6 := Lib.hid (show ∀ k, E6 k → E k ∨ w.heap.size ≤ k from fun k hk => (hE6 k hk).elim (HP.out.foot k) fun h => .inr (by have := HM5.out.size; have := HP.out.mod.size; have := HM3.out.size; omega))
                     clear h6 hm6 hE6))
              all_goals
                clear q1w
                obtain ⟨e6, he6⟩ : ∃ e6, appendE Di (nameW n) p = e6 := ⟨_, rfl⟩
                rw [he6]
                have HE0 := Lib.hid he6
                clear he6
                by_cases hz : e6 = 0
                · have HEQ2 := Lib.hid (HEQ.out.trans (appAll_cons (show appendE Di (nameW n) p = 0 from HE0.out.trans hz)))
                  subst hz
                  go_wp2_with fail
                  go_roundw
                  case rel => exact ⟨i + 4096, E6, appendD Di (nameW n) p, by omega, by go_num, ⟨H6.out, appendD_ok HP.out.ok _ _, HEQ2.out, HP.out.mod.trans HM6.out fun k hk => .inl hk, HE6.out⟩⟩
                  case measure => simp [intOf]; omega
                · have HFA := Lib.hid (HEQ.out.trans (appAll_fail (show appendE Di (nameW n) p ≠ 0 from fun e => hz (HE0.out.symm.trans e))))
                  have hzb : (e6 == 0) = false := by simp [hz]
                  have HV3 : Hid (D' = appendD Di (nameW n) p ∧ E' = e6) := by
                    have := HV2.out
                    rw [HFA.out, HE0.out] at this
                    simp only at this
                    rw [if_neg hz] at this
                    exact ⟨congrArg Prod.fst this, congrArg Prod.snd this⟩
                  clear hz
                  go_wp2_with fail
                  go_ret
                  exact ⟨by rw [HV3.out.2]; rfl, E6, by rw [HV3.out.1]; exact H6.out, (HM3.out.non.trans HP.out.mod fun k hk => .inl hk).trans HM6.out fun k hk => .inl hk, HE6.out⟩
            · have HFA := Lib.hid (HP.out.eq.trans (by rw [pieces_end (by omega)]; rfl : _ = (Di, (0 : Int))))
              have HV3 : Hid (D' = syncD Di (nameW n) ∧ E' = syncE Di (nameW n)) := by
                have := HV2.out
                rw [HFA.out] at this
                simp only [if_true] at this
                exact ⟨congrArg Prod.fst this, congrArg Prod.snd this⟩
              have hlt' : F.length ≤ i := by omega
              clear hlt
              go_wp2_with fail
              refine (nameR_any n _).mono ?_
              rintro e w5 ⟨rfl, hm5⟩
              have HM5 := Lib.hid hm5
              clear hm5
              go_wp2_with fail
              refine (syncR_any (nameW n) Ei r Di _ (HP.out.disk.mod0 HM5.out) HP.out.ok (by have := nameW_size n; omega)).mono ?_
              rintro e w6 ⟨rfl, E6, h6, hm6, hE6⟩
              have H6 := Lib.hid h6
              have HM6 := Lib.hid hm6
              have HE6 := Lib.hid hE6
              obtain ⟨e6, he6⟩ : ∃ e6, syncE Di (nameW n) = e6 := ⟨_, rfl⟩
              rw [he6]
              have HE0 := Lib.hid he6
              clear h6 hm6 hE6 he6
              go_wp2_with fail
              go_ret
              exact ⟨by rw [HV3.out.2, HE0.out]; rfl, E6, by rw [HV3.out.1]; exact H6.out, ((HM3.out.non.trans HP.out.mod fun k hk => .inl hk).trans0 HM5.out).trans HM6.out fun k hk => .inl hk, fun k hk => (HE6.out k hk).elim (HP.out.foot k) fun h => .inr (by have := HM5.out.size; have := HP.out.mod.size; have := HM3.out.size; omega)⟩
    · have HV2 : Hid (D' = D ∧ E' = 1) := by
        have := HDV.out
        unfold addB at this
        rw [if_neg (fun h => hbig (by have := h.2.2; rw [HBL.out] at this; exact this))] at this
        exact ⟨(congrArg Prod.fst this).symm, (congrArg Prod.snd this).symm⟩
      clear hr
      go_enter Tryz.func52, Tryz.ntmps52
      go_wp2_with fail
      refine (rightF_any n _).mono ?_
      rw [HRT.out]
      rintro e w1 ⟨rfl, rfl⟩
      go_wp2_with fail
      go_ret
      exact ⟨by rw [HV2.out.2]; rfl, E, by rw [HV2.out.1]; exact HH.out, Mod.refl _ _, fun k hk => .inl hk⟩
  · have HRT : Hid (rightB n = false) := decide_eq_false hr
    have HV2 : Hid (D' = D ∧ E' = 1) := by
      have := HDV.out
      unfold addB at this
      rw [if_neg (fun h => hr ⟨h.1, h.2.1⟩)] at this
      exact ⟨(congrArg Prod.fst this).symm, (congrArg Prod.snd this).symm⟩
    clear hr
    go_enter Tryz.func52, Tryz.ntmps52
    go_wp2_with fail
    refine (rightF_any n _).mono ?_
    rw [HRT.out]
    rintro e w1 ⟨rfl, rfl⟩
    go_wp2_with fail
    go_ret
    exact ⟨by rw [HV2.out.2]; rfl, E, by rw [HV2.out.1]; exact HH.out, Mod.refl _ _, fun k hk => .inl hk⟩

end Go.Proofs.YtgdamcimpgapgaaGreatDoor

/- sawyerref04.SameFiles, at files that are the same. -/
namespace Go.Proofs.YtgdamcimpgapgaaGreatDoor
open Go.RowKit

set_option maxRecDepth 100000 in
set_option maxHeartbeats 1000000 in
theorem sameFiles_eq (A B : Option Addr) (n c d : Nat) (xs ys : List Fc) (w : World) (hx : RdF w A n xs) (hy : RdF w B n ys) (he : xs.map (·.f) = ys.map (·.f)) (hn : n ≤ 9223372036854775807) :
    Calls Tryz.prog 21 #[.slice A n c, .slice B n d] w fun e w' => e = .returned (.bool true) ∧ ∃ q, w' = w.drewN q := by
  have HX := Lib.hid hx
  have HY := Lib.hid hy
  have HE := Lib.hid he
  clear hx hy he
  go_enter Tryz.func21, Tryz.ntmps21
  go_wp2_with fail
  go_loopw [5] (fun i wr => ∃ k q : Nat, k ≤ n ∧ i = .int .i64 k ∧ wr = w.drewN q) (fun i _ => n - (intOf i).toNat)
  case atStart => exact ⟨0, 0, Nat.zero_le _, rfl, rfl⟩
  case round =>
    obtain ⟨k, q, hk, rfl, rfl⟩ := hrel
    by_cases hlt : k < n
    · obtain ⟨b, o, x, rfl, hxk, g0, g1, g2⟩ := HX.out.1.file hlt
      obtain ⟨b', o', y, rfl, hyk, k0, k1, k2⟩ := HY.out.1.file hlt
      have hf : x.f = y.f := by
        have := congrArg (fun l => l[k]?) HE.out
        simpa [List.getElem?_map, hxk, hyk] using this
      have hrx := HX.out.2 x (List.mem_of_getElem? hxk)
      have hry := HY.out.2 y (List.mem_of_getElem? hyk)
      rw [← hf] at k0 k1 k2 hry
      obtain ⟨⟨fn, fs, fb⟩, xA, xc⟩ := x
      simp only at g0 g1 g2 k0 k1 k2 hrx hry
      have h1 := fun j => conv_str (P := Tryz.prog) (w.drewN j) 31 9 5 xA fb.length xc fb Tryz.underlying31 Tryz.underlying5 Tryz.underlying9 (hrx.drewN j)
      have h2 := fun j => conv_str (P := Tryz.prog) (w.drewN j) 31 9 5 y.A fb.length y.c fb Tryz.underlying31 Tryz.underlying5 Tryz.underlying9 (hry.drewN j)
      have i0 : (0 : Int) ≤ (k : Int) := by omega
      have i1 : (k : Int) < (n : Int) := by omega
      clear hxk hyk hf hrx hry
      go_wp2_with fail
      go_quiet (fail)
      clear h1 h2
      go_wp2_with fail
      go_roundw
      case rel => exact ⟨k + 1, _, by omega, by go_num, rfl⟩
      case measure => simp [intOf]; omega
    · obtain rfl : k = n := by omega
      go_wp2_with fail
      go_ret
      exact ⟨rfl, q, rfl⟩

end Go.Proofs.YtgdamcimpgapgaaGreatDoor
