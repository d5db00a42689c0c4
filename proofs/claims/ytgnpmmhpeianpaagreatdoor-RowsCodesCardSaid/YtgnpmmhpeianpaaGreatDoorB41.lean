/- The engine of a new disk; txn.Begin. -/
import Derived.Test.YtgnpmmhpeianpaaGreatDoorB34
import Derived.Test.YtgnpmmhpeianpaaGreatDoorB15
import Derived.Test.YtgnpmmhpeianpaaGreatDoorB21
namespace Go.Proofs.YtgnpmmhpeianpaaGreatDoor
open Go.RowKit

theorem frD_of {w : World} {F : Nat → Prop} {d : Nat} {n : Int} (h : DiskIs w F d (newD n)) (h0 : 0 ≤ n) (h1 : n ≤ 1099511627776) : FrD w d := by
  have ok := newD_ok h0 h1
  refine ⟨fun W hm => (read_any _ F d _ W (h.mod0 hm) ok (by decide)).mono fun e W' hp => ?_, fun W hm => (has_any _ F d _ W (h.mod0 hm)).mono fun e W' hp => ?_, fun W hm => (names_any F d _ W (h.mod0 hm) ok).mono fun e W' hp => ?_⟩
  · unfold RdPost at hp
    rw [if_pos (by decide +kernel)] at hp
    exact hp
  · exact hp
  · obtain ⟨A, k, c, L, rfl, ⟨ss, hs, hL⟩, hr, _, _, _, hb⟩ := hp
    have h0 : ss = [] := by
      have : ss.Perm [] := hs
      exact this.eq_nil
    subst h0
    have hk : L.length = k := by simpa using hr.1
    rw [hL] at hk
    simp at hk
    subst hk
    exact ⟨A, c, rfl, Mod.of_below hb⟩

/-- a new engine. -/
def newEg (n : Int) : Eg := ⟨newD n, [], 0, 0, []⟩

theorem openE_new (n : Int) (F : Nat → Prop) (d : Nat) (w : World) (h : DiskIs w F d (newD n)) (h0 : 0 ≤ n) (h1 : n ≤ 1099511627776) :
    Calls Tryz.prog 42 #[.pointer (some ⟨d, 0, none⟩)] w fun r w' => ∃ e F', r = .returned (.tuple #[.pointer (some ⟨e, 0, none⟩), .int .i64 0]) ∧ EgIs w' F' e (newEg n) ∧ Mod Non w w' ∧ ∀ k, F' k → F k ∨ w.heap.size ≤ k := by
  refine (openF d w (frD_of h h0 h1)).mono ?_
  rintro r w' ⟨e, l, tm, pm, rfl, ⟨b1, b2, b3, b4, ⟨n1, n2, n3, n4, n5, n6⟩, g1, g2, g3, g4⟩, hm⟩
  have hpl := h.lay.lt
  have hfl := h.flt
  refine ⟨e, fun k => k = e ∨ k = tm ∨ k = pm ∨ F k ∨ k = l, rfl, ⟨d, l, tm, pm, F, fun k => k = l, ⟨b1, h.mod0 hm, ?_, b3, b4, n2, n3, n6, ?_, ?_, ?_⟩, fun k => Iff.rfl⟩, hm, ?_⟩
  · refine ⟨fun _ => False, [], ⟨b2, trivial, List.nodup_nil, by simp, fun _ h => h.elim⟩, rfl, rfl, (fun p hp => by cases hp), (fun _ h => h.elim), fun k hk => ?_⟩
    rw [hk]; exact b2.lt
  · intro k hk
    have := hfl k hk
    exact ⟨by omega, by omega, by omega, by omega⟩
  · rintro k rfl
    exact ⟨fun h => n1 h.symm, n4, n5⟩
  · exact ⟨by omega, by omega, by omega, by omega⟩
  · rintro k (rfl | rfl | rfl | hk | rfl)
    · exact .inr g1
    · exact .inr g3
    · exact .inr g4
    · exact .inl hk
    · exact .inr g2

set_option maxRecDepth 100000 in
set_option maxHeartbeats 1000000 in
theorem tbegin_any (F : Nat → Prop) (e : Nat) (E : Eg) (w : World) (h : EgIs w F e E) (hl : E.pins.length < 16) (hq : 0 ≤ pinN E.pins E.seq ∧ pinN E.pins E.seq ≤ 1000000) :
    Calls Tryz.prog 83 #[.pointer (some ⟨e, 0, none⟩)] w fun r w' => ∃ t Ft, r = .returned (.tuple #[.pointer (some ⟨t, 0, none⟩), .int .i64 0]) ∧ EgIs w' F e (pinE E) ∧ TxIs w' Ft t e ⟨E.seq, false, [], []⟩ ∧ Mod F w w' ∧ ∀ k, Ft k → w.heap.size ≤ k := by
  have hmm := @run_makeMap Tryz.prog
  have HP := Lib.hid (pin_any F e E w h hl hq)
  have hpl := h.lay.lt
  obtain ⟨sq, hsq⟩ : ∃ sq, E.seq = sq := ⟨_, rfl⟩
  rw [hsq] at HP ⊢
  clear h
  go_enter Tryz.func83, Tryz.ntmps83
  go_wp2_with fail
  refine HP.out.mono ?_
  rintro r w1 ⟨rfl, he1, hm1⟩
  have HE1 := Lib.hid he1
  have HM1 := Lib.hid hm1
  have hs1 := hm1.size
  clear he1 hm1
  go_wp2_with fail
  go_ret2
  have ht := Blk.new ((w1.alloc (.map #[] 0)).alloc (.map #[] 0)) 252 (txCells e w1.heap.size (w1.heap.size + 1) ⟨sq, false, [], []⟩)
  rw [World.size_alloc, World.size_alloc] at ht
  have hm2 : Mod Non w1 (((w1.alloc (.map #[] 0)).alloc (.map #[] 0)).alloc (.cells (txCells e w1.heap.size (w1.heap.size + 1) ⟨sq, false, [], []⟩) 252)) := (((Mod.refl Non w1).alloc _).alloc _).alloc _
  have hma := ((MapAt.new Value.string w1).mod0' ((Mod.refl Non _).alloc (.map #[] 0))).mod0' ((Mod.refl Non _).alloc (.cells (txCells e w1.heap.size (w1.heap.size + 1) ⟨sq, false, [], []⟩) 252))
  have hmb := (MapAt.new Value.string (w1.alloc (.map #[] 0))).mod0' ((Mod.refl Non _).alloc (.cells (txCells e w1.heap.size (w1.heap.size + 1) ⟨sq, false, [], []⟩) 252))
  rw [World.size_alloc] at hmb
  refine ⟨_, fun k => k = w1.heap.size + 1 + 1 ∨ k = w1.heap.size ∨ k = w1.heap.size + 1, rfl, HE1.out.mod0 hm2, ⟨fun _ => False, w1.heap.size, w1.heap.size + 1, [], ⟨ht, hma, trivial, hmb, by omega, by omega, by omega, fun _ h => h.elim⟩, .inl rfl, .inr (.inl rfl), .inr (.inr rfl), (fun _ h => h.elim), (by omega), fun k hk => ?_⟩, HM1.out.trans0 hm2, fun k hk => by omega⟩
  simp only [World.size_alloc]
  omega

end Go.Proofs.YtgnpmmhpeianpaaGreatDoor
