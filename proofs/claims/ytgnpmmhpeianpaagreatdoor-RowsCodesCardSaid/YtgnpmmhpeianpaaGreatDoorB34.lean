/- lsm: made, version and Get where the memory is empty; edit.Find without tables. -/
import Derived.Test.YtgnpmmhpeianpaaGreatDoorB13
import Derived.Test.YtgnpmmhpeianpaaGreatDoorB28
import Derived.Test.YtgnpmmhpeianpaaGreatDoorB14
import Derived.Test.YtgnpmmhpeianpaaGreatDoorB08
import Derived.Deep.RegionHeld3
namespace Go.Proofs.YtgnpmmhpeianpaaGreatDoor
open Go.RowKit

set_option maxRecDepth 100000 in
set_option maxHeartbeats 400000 in
theorem madeE_any (e d : Nat) (w : World) (h : w.cell? ⟨e, 0, none⟩ = some (.pointer (some ⟨d, 0, none⟩))) : Calls Tryz.prog 213 #[.pointer (some ⟨e, 0, none⟩)] w fun r w' => r = .returned (.bool true) ∧ w = w' := by
  go_enter Tryz.func213, Tryz.ntmps213
  go_wp2
  go_ret
  exact ⟨rfl, rfl⟩

set_option maxRecDepth 100000 in
set_option maxHeartbeats 400000 in
theorem find_zero (KA : Option Addr) (kn kc : Nat) (w : World) : Calls Tryz.prog 266 #[.agg #[.int .i64 0, .int .i64 0, .int .i64 0, .int .i64 0, .slice none 0 0], .slice KA kn kc] w fun r w' => r = .returned (.slice none 0 0) ∧ Mod Non w w' := by
  have hm : Mod Non w (w.alloc (.cells #[.int .i64 0, .int .i64 0, .int .i64 0, .int .i64 0, .slice none 0 0] 124)) := (Mod.refl Non w).alloc _
  have HM := Lib.hid hm
  clear hm
  go_enter Tryz.func266, Tryz.ntmps266
  go_wp2_with fail
  go_loop [5, 11] (fun v i => v = .slice none 0 0 ∧ i = .int .i64 0) (fun _ _ => 0)
  case atStart => exact ⟨rfl, rfl⟩
  case round =>
    obtain ⟨rfl, rfl⟩ := hrel
    go_wp2_with fail
    go_ret
    exact ⟨rfl, HM.out⟩

/-- the engine's cells. -/
theorem EgAt.cell {w : World} {e d l tm pm : Nat} {Fd Fl : Nat → Prop} {E : Eg} (h : EgAt w e d l tm pm Fd Fl E) (i : Nat) : w.cell? ⟨e, i, none⟩ = (egCells d l tm pm E)[i]? := h.blk.cell i

set_option maxRecDepth 100000 in
set_option maxHeartbeats 1000000 in
theorem version_empty (F : Nat → Prop) (e : Nat) (E : Eg) (KA : Option Addr) (kn kc : Nat) (k : List UInt8) (s : Int) (w : World) (h : EgIs w F e E) (hE : E.mem = []) (hk : Rd w KA kn (by8 k)) :
    Calls Tryz.prog 217 #[.pointer (some ⟨e, 0, none⟩), .slice KA kn kc, .int .i64 s] w fun r w' => r = .returned (.tuple #[.agg #[.slice none 0 0, .int .i64 0, .bool false, .slice none 0 0], .bool false]) ∧ Mod Non w w' := by
  obtain ⟨d, l, tm, pm, Fd, Fl, h1, h2⟩ := h
  have hm0 : Mod Non w (w.alloc (.cells #[.slice none 0 0, .int .i64 0, .bool false, .slice none 0 0] 165)) := (Mod.refl Non w).alloc _
  have hz0 := Blk.new w 165 #[.slice none 0 0, .int .i64 0, .bool false, .slice none 0 0]
  have hl := h1.list
  rw [hE] at hl
  have HK := Lib.hid hk
  have HL := Lib.hid hl
  have HH := Lib.hid h1
  have HM0 := Lib.hid hm0
  have HZ0 := Lib.hid hz0
  clear hk hl h1 h2 hm0 hz0 hE
  go_enter Tryz.func217, Tryz.ntmps217
  go_wp2_with fail
  generalize w.alloc (.cells #[.slice none 0 0, .int .i64 0, .bool false, .slice none 0 0] 165) = w0 at *
  have H0 := HH.out.mod0 HM0.out
  have c0 : w0.cell? ⟨e, 0, none⟩ = some (.pointer (some ⟨d, 0, none⟩)) := H0.cell 0
  have c7 : w0.cell? ⟨e, 7, none⟩ = some (.pointer (some ⟨l, 0, none⟩)) := H0.cell 7
  refine (madeE_any e d w0 c0).mono ?_
  rintro r w1 ⟨rfl, rfl⟩
  clear H0
  go_wp2_with fail
  refine (getL_empty Fl l KA kn kc k s w0 (HL.out.mod0 HM0.out) (HK.out.mod0 HM0.out)).mono ?_
  rintro r w2 ⟨rfl, hm2⟩
  have HM2 := Lib.hid (HM0.out.trans0 hm2)
  have HZ2 := Lib.hid (HZ0.out.mod hm2 fun h => h)
  have hb3 := Blk.new w2 165 #[.slice none 0 0, .int .i64 0, .bool false, .slice none 0 0]
  have hm3 : Mod Non w2 (w2.alloc (.cells #[.slice none 0 0, .int .i64 0, .bool false, .slice none 0 0] 165)) := (Mod.refl Non w2).alloc _
  have H3 := (HH.out.mod0 HM2.out).mod0 hm3
  clear hm2 c0 c7
  have e1 : (w2.alloc (.cells #[.slice none 0 0, .int .i64 0, .bool false, .slice none 0 0] 165)).cell? ⟨e, 1, none⟩ = some (.int .i64 0) := H3.cell 1
  have e2 : (w2.alloc (.cells #[.slice none 0 0, .int .i64 0, .bool false, .slice none 0 0] 165)).cell? ⟨e, 2, none⟩ = some (.int .i64 0) := H3.cell 2
  have e3 : (w2.alloc (.cells #[.slice none 0 0, .int .i64 0, .bool false, .slice none 0 0] 165)).cell? ⟨e, 3, none⟩ = some (.int .i64 0) := H3.cell 3
  have e4 : (w2.alloc (.cells #[.slice none 0 0, .int .i64 0, .bool false, .slice none 0 0] 165)).cell? ⟨e, 4, none⟩ = some (.int .i64 0) := H3.cell 4
  have e5 : (w2.alloc (.cells #[.slice none 0 0, .int .i64 0, .bool false, .slice none 0 0] 165)).cell? ⟨e, 5, none⟩ = some (.slice none 0 0) := H3.cell 5
  have HB3 := Lib.hid hb3
  have HM3 := Lib.hid (HM2.out.trans0 hm3)
  have HZ3 := Lib.hid (HZ2.out.mod hm3 fun h => h)
  clear hb3 hm3 H3
  go_wp2_with fail
  refine (find_zero KA kn kc _).mono ?_
  rintro r w4 ⟨rfl, hm4⟩
  have HM4 := Lib.hid (HM3.out.trans0 hm4)
  have hz4 := HZ3.out.mod hm4 fun h => h
  have hb4 := HB3.out.mod hm4 fun h => h
  have HZ4 := Lib.hid hz4
  clear hm4 e1 e2 e3 e4 e5
  go_wp2_with fail
  go_loop [9, 35] (fun v i => v = .bool false ∧ i = .int .i64 0) (fun _ _ => 0)
  case atStart => exact ⟨rfl, rfl⟩
  case round =>
    obtain ⟨rfl, rfl⟩ := hrel
    have c0 : w4.cell? ⟨w.heap.size, 0, none⟩ = some (.slice none 0 0) := hz4.cell 0
    have c1 : w4.cell? ⟨w.heap.size, 1, none⟩ = some (.int .i64 0) := hz4.cell 1
    have c2 : w4.cell? ⟨w.heap.size, 2, none⟩ = some (.bool false) := hz4.cell 2
    have c3 : w4.cell? ⟨w.heap.size, 3, none⟩ = some (.slice none 0 0) := hz4.cell 3
    have f0 := hz4.frozen 0
    have f1 := hz4.frozen 1
    have f2 := hz4.frozen 2
    have f3 := hz4.frozen 3
    have d0 : w4.cell? ⟨w2.heap.size, 0, none⟩ = some (.slice none 0 0) := hb4.cell 0
    have d1 : w4.cell? ⟨w2.heap.size, 1, none⟩ = some (.int .i64 0) := hb4.cell 1
    have d2 : w4.cell? ⟨w2.heap.size, 2, none⟩ = some (.bool false) := hb4.cell 2
    have d3 : w4.cell? ⟨w2.heap.size, 3, none⟩ = some (.slice none 0 0) := hb4.cell 3
    clear hz4 hb4
    go_wp2_with fail
    refine bodyPost_ret (results_rowtmp rfl _ _ w.heap.size 165 _ _ rfl (HZ4.out.four _ _ _ _) Tryz.underlying165 rfl (by kernel_rfl) (.bool false) rfl) rfl ?_
    exact ⟨rfl, set4 HM4.out _ _ _ _⟩

set_option maxRecDepth 100000 in
set_option maxHeartbeats 1000000 in
theorem getE_empty (F : Nat → Prop) (e : Nat) (E : Eg) (KA : Option Addr) (kn kc : Nat) (k : List UInt8) (s : Int) (w : World) (h : EgIs w F e E) (hE : E.mem = []) (hk : Rd w KA kn (by8 k)) :
    Calls Tryz.prog 157 #[.pointer (some ⟨e, 0, none⟩), .slice KA kn kc, .int .i64 s] w fun r w' => r = .returned (.tuple #[.slice none 0 0, .int .i64 6]) ∧ Mod Non w w' := by
  have HV := Lib.hid (version_empty F e E KA kn kc k s w h hE hk)
  obtain ⟨d, l, tm, pm, Fd, Fl, h1, h2⟩ := h
  have c0 : w.cell? ⟨e, 0, none⟩ = some (.pointer (some ⟨d, 0, none⟩)) := h1.cell 0
  clear h1 h2 hE hk
  go_enter Tryz.func157, Tryz.ntmps157
  go_wp2_with fail
  refine (madeE_any e d w c0).mono ?_
  rintro r w1 ⟨rfl, rfl⟩
  go_wp2_with fail
  refine HV.out.mono ?_
  rintro r w2 ⟨rfl, hm2⟩
  have HM2 := Lib.hid hm2
  clear hm2 c0
  go_wp2_with fail
  go_ret2
  exact ⟨rfl, HM2.out.alloc _⟩

end Go.Proofs.YtgnpmmhpeianpaaGreatDoor

/- lsm: Pin; txn: Begin, open, Get (the engine's memory empty). -/
namespace Go.Proofs.YtgnpmmhpeianpaaGreatDoor
open Go.RowKit

theorem zeroInt (w : World) : (zeroValue 3).run Tryz.prog w = .ok (.int .i64 0) w := by kernel_rfl

/-- how often a number is pinned. -/
def pinN (l : List (Int × Int)) (k : Int) : Int := match l with
  | [] => 0
  | p :: r => if p.1 = k then p.2 else pinN r k
def putP (l : List (Int × Int)) (k v : Int) : List (Int × Int) := match l with
  | [] => [(k, v)]
  | p :: r => if p.1 = k then (k, v) :: r else p :: putP r k v
theorem look_pin (k : Int) : ∀ l : List (Int × Int), (lookKV (pinV l) k).getD (.int .i64 0) = .int .i64 (pinN l k)
  | [] => rfl
  | p :: r => by
    have ih := look_pin k r
    unfold pinV at ih ⊢
    rw [List.map_cons, lookKV, pinN]
    by_cases h : p.1 = k
    · rw [if_pos h, if_pos h]; rfl
    · rw [if_neg h, if_neg h]; exact ih
theorem put_pin (k v : Int) : ∀ l : List (Int × Int), putKV (pinV l) k (.int .i64 v) = pinV (putP l k v)
  | [] => rfl
  | p :: r => by
    have ih := put_pin k v r
    unfold pinV at ih ⊢
    rw [List.map_cons, putKV, putP]
    by_cases h : p.1 = k
    · rw [if_pos h, if_pos h]; rfl
    · rw [if_neg h, if_neg h, List.map_cons, ih]

/-- an engine that is pinned once more. -/
def pinE (E : Eg) : Eg := { E with pins := putP E.pins E.seq (pinN E.pins E.seq + 1) }

set_option maxRecDepth 100000 in
set_option maxHeartbeats 2000000 in
theorem pin_any (F : Nat → Prop) (e : Nat) (E : Eg) (w : World) (h : EgIs w F e E) (hl : E.pins.length < 16) (hq : 0 ≤ pinN E.pins E.seq ∧ pinN E.pins E.seq ≤ 1000000) :
    Calls Tryz.prog 151 #[.pointer (some ⟨e, 0, none⟩)] w fun r w' => r = .returned (.tuple #[.int .i64 E.seq, .int .i64 0]) ∧ EgIs w' F e (pinE E) ∧ Mod F w w' := by
  obtain ⟨d, l, tm, pm, Fd, Fl, h1, h2⟩ := h
  have c0 : ∀ x : WorldOf (Mod Non w), x.W.cell? ⟨e, 0, none⟩ = some (.pointer (some ⟨d, 0, none⟩)) := fun x => (h1.mod0 x.ok).cell 0
  have c8 : ∀ x : WorldOf (Mod Non w), x.W.cell? ⟨e, 8, none⟩ = some (.int .i64 E.seq) := fun x => (h1.mod0 x.ok).cell 8
  have c10 : ∀ x : WorldOf (Mod Non w), x.W.cell? ⟨e, 10, none⟩ = some (.map (some pm)) := fun x => (h1.mod0 x.ok).cell 10
  have hlk : ∀ W, Mod Non w W → (Instr.lookup 131 (.map (some pm)) (.int .i64 E.seq) false).run Tryz.prog W = .ok (.int .i64 (pinN E.pins E.seq)) W := fun W hm => by
    have := (h1.pmap.mod0' hm).run_look (P := Tryz.prog) i64Key Tryz.underlying131 Tryz.underlying3 (zeroInt W) E.seq false
    rw [look_pin] at this
    exact this
  have hln : ∀ W, Mod Non w W → (Builtin.len_ #[131] 3 #[.map (some pm)]).run Tryz.prog W = .ok (.int .i64 ((pinV E.pins).length : Int)) W := fun W hm => (h1.pmap.mod0' hm).run_len (P := Tryz.prog) 3 Tryz.underlying131
  have hll : (pinV E.pins).length = E.pins.length := by simp [pinV]
  rw [hll] at hln
  have hlk2 : ∀ x : WorldOf (Mod Non w), (Instr.lookup 131 (.map (some pm)) (.int .i64 E.seq) false).run Tryz.prog x.W = .ok (.int .i64 (pinN E.pins E.seq)) x.W := fun x => hlk x.W x.ok
  have hln2 : ∀ x : WorldOf (Mod Non w), (Builtin.len_ #[131] 3 #[.map (some pm)]).run Tryz.prog x.W = .ok (.int .i64 (E.pins.length : Int)) x.W := fun x => hln x.W x.ok
  have HMD : Hid (∀ W, Mod Non w W → Calls Tryz.prog 213 #[.pointer (some ⟨e, 0, none⟩)] W fun r w' => r = .returned (.bool true) ∧ Mod Non W w') := fun W hm => (madeE_any e d W ((h1.mod0 hm).cell 0)).mono fun _ _ ⟨h1, h2⟩ => ⟨h1, h2 ▸ Mod.refl _ _⟩
  have hne : Nonempty (WorldOf (Mod Non w)) := ⟨⟨w, Mod.refl _ _⟩⟩
  have hd0 : Mod Non w { w with drawn := w.drawn + 1 } := (Mod.refl Non w).drew
  have HH := Lib.hid h1
  have HF := Lib.hid h2
  have HLK := Lib.hid hlk
  obtain ⟨q, hqq⟩ : ∃ q, pinN E.pins E.seq = q := ⟨_, rfl⟩
  obtain ⟨n, hn⟩ : ∃ n, E.pins.length = n := ⟨_, rfl⟩
  obtain ⟨sq, hsq⟩ : ∃ sq, E.seq = sq := ⟨_, rfl⟩
  have hpe : pinE E = { E with pins := putP E.pins sq (q + 1) } := by unfold pinE; rw [hsq] at hqq ⊢; rw [hqq]
  have HPE := Lib.hid hpe
  rw [hqq] at hlk2 hq
  rw [hn] at hln2 hl
  rw [hsq] at hlk2 c8
  have HSQ := Lib.hid hsq
  have HQQ := Lib.hid hqq
  clear hpe hlk hln hqq hn hll h1 h2 hsq
  have hge : decide (16 ≤ (n : Int)) = false := decide_eq_false (by omega)
  obtain ⟨hqa, hqb⟩ := hq
  have HWR : Hid (IntKind.i64.wrap (q + 1) = q + 1) := IntWalk.i64_in _ (by omega)
  by_cases hq0 : q = 0
  all_goals
    first
      | (have e1 : (q == 0) = true := by simp [hq0]
         have e2 : decide (q = 0) = true := decide_eq_true hq0)
      | (have e1 : (q == 0) = false := by simp [hq0]
         have e2 : decide (q = 0) = false := decide_eq_false hq0)
    clear hq0
    go_enter Tryz.func151, Tryz.ntmps151
    go_wp2_with fail
    refine wp_region_class (S := Mod Non w) (by kernel_rfl) (by kernel_rfl) hd0 ?_
    repeat (go_big_quiet_step ((go_at_call 213; exact Calls.quiet_class (HMD.out _ (WorldOf.ok _)))))
    refine wpQuiet_nil ?_
    rintro ⟨w3, hm3⟩
    dsimp only
    have s1 : w3.cell? ⟨e, 8, none⟩ = some (.int .i64 sq) := c8 ⟨w3, hm3⟩
    have s2 : w3.cell? ⟨e, 10, none⟩ = some (.map (some pm)) := c10 ⟨w3, hm3⟩
    have s3 : (Instr.lookup 131 (.map (some pm)) (.int .i64 sq) false).run Tryz.prog w3.drew = .ok (.int .i64 q) w3.drew := hlk2 ⟨w3.drew, hm3.drew⟩
    have HM3 := Lib.hid hm3
    clear hm3
    go_wp2_with fail
    obtain ⟨w5, hrun, hp5, hm5⟩ := (HH.out.pmap.mod0' HM3.out.drew).run_put (P := Tryz.prog) i64Key Tryz.underlying131 Tryz.underlying3 sq (.int .i64 (IntKind.i64.wrap (q + 1)))
    rw [HWR.out, put_pin] at hp5
    have HP5 := Lib.hid hp5
    have HM5 := Lib.hid hm5
    have HRUN := Lib.hid hrun
    have k8 : w5.cell? ⟨e, 8, none⟩ = some (.int .i64 sq) := hm5.cell (p := ⟨e, 8, none⟩) s1 (fun h => HH.out.ep h)
    have k10 : w5.cell? ⟨e, 10, none⟩ = some (.map (some pm)) := hm5.cell (p := ⟨e, 10, none⟩) s2 (fun h => HH.out.ep h)
    clear hrun hp5 hm5
    go_region_held3 (fun w' => w'.cell? ⟨e, 8, none⟩ = some (.int .i64 sq) ∧ w'.cell? ⟨e, 10, none⟩ = some (.map (some pm)))
      (first | go_keep)
      (first | (rw [HRUN.out]; simp only [Result.andThen, Oper.upon]))
    all_goals
      go_wp2_with fail
      go_ret2
      refine ⟨by rw [HSQ.out]; rfl, ⟨d, l, tm, pm, Fd, Fl, ⟨?_, ?_, ?_, ?_, ?_, HH.out.et, HH.out.ep, HH.out.tp, HH.out.fd, HH.out.fl, HH.out.pow⟩, HF.out⟩, ((HM3.out.drew).non (S := F)).trans HM5.out fun i hi => .inl (by rw [hi]; exact (HF.out pm).2 (.inr (.inr (.inl rfl))))⟩
      · have := (HH.out.blk.mod HM3.out.drew (fun h => h)).mod HM5.out (fun h => HH.out.ep h)
        exact this
      · exact (HH.out.disk.mod0 HM3.out.drew).mod HM5.out (fun k hk h => (HH.out.fd k hk).2.2.1 h) (fun h => HH.out.pow.2.2.2 h)
      · exact (HH.out.list.mod0 HM3.out.drew).mod HM5.out (fun k hk h => (HH.out.fl k hk).2.2 h)
      · exact (HH.out.tmap.mod0' HM3.out.drew).mod HM5.out (fun h => HH.out.tp h)
      · rw [HPE.out]
        exact HP5.out

end Go.Proofs.YtgnpmmhpeianpaaGreatDoor
