/- skip: the closure of before, before, copied. -/
import Derived.Test.YtgnpmmhpeianpaaGreatDoorB07
import Derived.Test.YtgnpmmhpeianpaaGreatDoorB20
import Derived.Deep.RegionHeld3
namespace Go.Proofs.YtgnpmmhpeianpaaGreatDoor
open Go.RowKit

/-- does an entry go ahead of a key's version? -/
def aheadE (k : List UInt8) (s : Int) (e : En) : Bool := lessB e.key k || (decide (e.key = k) && decide (s < e.seq))

/-- the two boxes that before's closure holds. -/
structure BxAt (w : World) (bk bs : Nat) (k : List UInt8) (s : Int) (KA : Option Addr) (kn kc : Nat) : Prop where
  ck : w.cell? ⟨bk, 0, none⟩ = some (.slice KA kn kc)
  cs : w.cell? ⟨bs, 0, none⟩ = some (.int .i64 s)
  rk : Rd w KA kn (by8 k)
theorem BxAt.mod0 {w w' : World} {bk bs : Nat} {k : List UInt8} {s : Int} {KA : Option Addr} {kn kc : Nat} (h : BxAt w bk bs k s KA kn kc) (hm : Mod Non w w') : BxAt w' bk bs k s KA kn kc :=
  ⟨hm.cell h.ck fun h => h, hm.cell h.cs fun h => h, h.rk.mod0 hm⟩

set_option maxRecDepth 100000 in
set_option maxHeartbeats 1000000 in
theorem before1_any (e : En) (A B : Option Addr) (c d : Nat) (bk bs : Nat) (k : List UInt8) (s : Int) (KA : Option Addr) (kn kc : Nat) (w : World) (hb : BxAt w bk bs k s KA kn kc) (he : EnOk w e A B c d) :
    Calls Tryz.prog 254 #[enVal e A B c d, .pointer (some ⟨bk, 0, none⟩), .pointer (some ⟨bs, 0, none⟩)] w fun r w' => r = .returned (.bool (aheadE k s e)) ∧ Mod Non w w' := by
  obtain ⟨key, seq, gone, val⟩ := e
  unfold enVal aheadE
  have hrk := he.rk
  simp only at hrk ⊢
  obtain ⟨n1, hn1⟩ : ∃ n1, key.length = n1 := ⟨_, rfl⟩
  obtain ⟨n2, hn2⟩ : ∃ n2, val.length = n2 := ⟨_, rfl⟩
  rw [hn1] at hrk
  rw [hn1, hn2]
  have hm : Mod Non w (w.alloc (.cells #[.slice A n1 c, .int .i64 seq, .bool gone, .slice B n2 d] 165)) := (Mod.refl Non w).alloc _
  have hb1 := hb.mod0 hm
  have hrk1 := hrk.mod0 hm
  have c1 := hb1.ck
  have c2 := hb1.cs
  have HL := Lib.hid (less_any A KA n1 kn c kc key k _ hrk1 hb1.rk)
  have HE := Lib.hid (equal_any A KA n1 c kn kc key k _ hrk1 hb1.rk)
  obtain ⟨q1, hq1⟩ : ∃ q, lessB key k = q := ⟨_, rfl⟩
  obtain ⟨q2, hq2⟩ : ∃ q, decide (key = k) = q := ⟨_, rfl⟩
  rw [hq1] at HL ⊢
  rw [hq2] at HE ⊢
  have HM := Lib.hid hm
  clear hn1 hn2 hrk hrk1 hb1 hm hb he hq1 hq2
  cases q1
  all_goals
    cases q2
    all_goals
      go_enter Tryz.func254, Tryz.ntmps254
      go_wp2_with (first
        | (go_at_call 175; refine HL.out.mono ?_; rintro e w1 ⟨rfl, rfl⟩)
        | (go_at_call 117; refine HE.out.mono ?_; rintro e w1 ⟨rfl, hw1⟩; subst hw1)
        | fail)
      go_ret
      exact ⟨rfl, HM.out⟩

set_option maxRecDepth 100000 in
set_option maxHeartbeats 400000 in
theorem before_any (KA : Option Addr) (kn kc : Nat) (s : Int) (w : World) :
    Calls Tryz.prog 194 #[.slice KA kn kc, .int .i64 s] w fun e w' => e = .returned (.func (.func 254) #[] #[.pointer (some ⟨w.heap.size, 0, none⟩), .pointer (some ⟨w.heap.size + 1, 0, none⟩)]) ∧
      (w.alloc (.cells #[.slice KA kn kc] 27)).alloc (.cells #[.int .i64 s] 3) = w' := by
  go_enter Tryz.func194, Tryz.ntmps194
  go_wp2
  go_ret
  exact ⟨rfl, rfl⟩

end Go.Proofs.YtgnpmmhpeianpaaGreatDoor

/- (*List).Get on a list without entries. -/
namespace Go.Proofs.YtgnpmmhpeianpaaGreatDoor
open Go.RowKit

theorem path_empty (l : Nat) : (pathV l [] 0).toArray = #[.pointer (some ⟨l, 0, none⟩), .pointer (some ⟨l, 0, none⟩), .pointer (some ⟨l, 0, none⟩), .pointer (some ⟨l, 0, none⟩), .pointer (some ⟨l, 0, none⟩), .pointer (some ⟨l, 0, none⟩), .pointer (some ⟨l, 0, none⟩), .pointer (some ⟨l, 0, none⟩), .pointer (some ⟨l, 0, none⟩), .pointer (some ⟨l, 0, none⟩), .pointer (some ⟨l, 0, none⟩), .pointer (some ⟨l, 0, none⟩)] := by
  simp [pathV, List.range, List.range.loop, lastB]
set_option maxRecDepth 100000 in
theorem idx12 (q0 q1 q2 q3 q4 q5 q6 q7 q8 q9 q10 q11 : Nat) (W : World) : (Instr.index 206 (.agg #[.pointer (some ⟨q0, 0, none⟩), .pointer (some ⟨q1, 0, none⟩), .pointer (some ⟨q2, 0, none⟩), .pointer (some ⟨q3, 0, none⟩), .pointer (some ⟨q4, 0, none⟩), .pointer (some ⟨q5, 0, none⟩), .pointer (some ⟨q6, 0, none⟩), .pointer (some ⟨q7, 0, none⟩), .pointer (some ⟨q8, 0, none⟩), .pointer (some ⟨q9, 0, none⟩), .pointer (some ⟨q10, 0, none⟩), .pointer (some ⟨q11, 0, none⟩)]) (.int .i64 0)).run Tryz.prog W = .ok (.pointer (some ⟨q0, 0, none⟩)) W := by kernel_rfl
theorem before1_fn : ∀ args w, (callFunc 254 args).run Tryz.prog w = .ok (.enter 254 args) w := fun args w => by
  first | exact run_callFunc_enter Tryz.func254 rfl args w | kernel_rfl

set_option maxRecDepth 100000 in
set_option maxHeartbeats 1000000 in
theorem getL_empty (F : Nat → Prop) (l : Nat) (KA : Option Addr) (kn kc : Nat) (k : List UInt8) (s : Int) (w : World) (h : LsIs w F l []) (hk : Rd w KA kn (by8 k)) :
    Calls Tryz.prog 265 #[.pointer (some ⟨l, 0, none⟩), .slice KA kn kc, .int .i64 s] w fun e w' => e = .returned (.tuple #[.agg #[.slice none 0 0, .int .i64 0, .bool false, .slice none 0 0], .bool false]) ∧ Mod Non w w' := by
  have hm0 : Mod Non w (w.alloc (.cells #[.slice none 0 0, .int .i64 0, .bool false, .slice none 0 0] 165)) := (Mod.refl Non w).alloc _
  have hz0 := Blk.new w 165 #[.slice none 0 0, .int .i64 0, .bool false, .slice none 0 0]
  have HK := Lib.hid hk
  have HH := Lib.hid h
  have HM0 := Lib.hid hm0
  have HZ0 := Lib.hid hz0
  clear h hk hm0 hz0
  go_enter Tryz.func265, Tryz.ntmps265
  go_wp2_with fail
  generalize w.alloc (.cells #[.slice none 0 0, .int .i64 0, .bool false, .slice none 0 0] 165) = w0 at *
  refine (before_any KA kn kc s w0).mono ?_
  rintro e w1 ⟨rfl, hw1⟩
  have hm1 : Mod Non w0 w1 := by rw [← hw1]; exact ((Mod.refl Non w0).alloc _).alloc _
  have hbx : BxAt w1 w0.heap.size (w0.heap.size + 1) k s KA kn kc := by
    refine ⟨?_, ?_, (HK.out.mod0 HM0.out).mod0 hm1⟩
    · rw [← hw1]; exact ((Blk.new w0 27 #[.slice KA kn kc]).alloc _).cell 0
    · have := (Blk.new (w0.alloc (.cells #[.slice KA kn kc] 27)) 3 #[.int .i64 s]).cell 0
      rw [World.size_alloc] at this
      rw [← hw1]; exact this
  have hl1 := (HH.out.mod0 HM0.out).mod0 hm1
  obtain ⟨G, bs, hat, hbs, _⟩ := hl1
  obtain rfl := List.map_eq_nil_iff.1 hbs
  have hp := path_any G l [] 0 w1 hat (Nat.le_refl _) (fun p hp => by cases hp) 254 #[.pointer (some ⟨w0.heap.size, 0, none⟩), .pointer (some ⟨w0.heap.size + 1, 0, none⟩)] (aheadE k s) before1_fn (fun j p hp => by simp at hp)
    (fun W e A B c d hm he => before1_any e A B c d _ _ k s KA kn kc W (hbx.mod0 hm) he)
  rw [path_empty] at hp
  have HP := Lib.hid hp
  have HAT := Lib.hid hat
  have HM1 := Lib.hid (HM0.out.trans0 hm1)
  have HZ1 := Lib.hid (HZ0.out.mod hm1 fun h => h)
  clear hp hat hw1 hm1 hbx
  go_wp2_with fail
  refine HP.out.mono ?_
  rintro e w2 ⟨rfl, hm2⟩
  have HM2 := Lib.hid (HM1.out.trans0 hm2)
  have hz2 := HZ1.out.mod hm2 fun h => h
  have HZ2 := Lib.hid hz2
  have hnx := (HAT.out.mod hm2 (fun h => h) (fun _ _ h => h) (fun _ _ h => h)).next (i := 0) (h := 0) (fun j hj => by omega) (by omega)
  have hnx2 : w2.cell? ⟨l, 5, none⟩ = some (.pointer none) := hnx
  have c0 : w2.cell? ⟨w.heap.size, 0, none⟩ = some (.slice none 0 0) := hz2.cell 0
  have c1 : w2.cell? ⟨w.heap.size, 1, none⟩ = some (.int .i64 0) := hz2.cell 1
  have c2 : w2.cell? ⟨w.heap.size, 2, none⟩ = some (.bool false) := hz2.cell 2
  have c3 : w2.cell? ⟨w.heap.size, 3, none⟩ = some (.slice none 0 0) := hz2.cell 3
  have f0 := hz2.frozen 0
  have f1 := hz2.frozen 1
  have f2 := hz2.frozen 2
  have f3 := hz2.frozen 3
  clear hm2 hz2 hnx
  have hix := idx12 l l l l l l l l l l l l w2
  go_wp2_with fail
  refine bodyPost_ret (results_rowtmp rfl _ _ w.heap.size 165 _ _ rfl (HZ2.out.four _ _ _ _) Tryz.underlying165 rfl (by kernel_rfl) (.bool false) rfl) rfl ?_
  exact ⟨rfl, set4 HM2.out _ _ _ _⟩

end Go.Proofs.YtgnpmmhpeianpaaGreatDoor
