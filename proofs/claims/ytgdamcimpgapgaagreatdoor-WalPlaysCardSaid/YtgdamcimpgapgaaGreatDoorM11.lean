/- wal.chunks and its iterator. -/
import Derived.Test.YtgdamcimpgapgaaGreatDoorM10
import Derived.Test.YtgdamcimpgapgaaGreatDoorM05
namespace Go.Proofs.YtgdamcimpgapgaaGreatDoor
open Go.RowKit
attribute [local go_sem] Oper.semAt_some

/-- a slice cut into pieces of at most 4096 bytes. -/
def chunkBs (A : Option Addr) (n c : Nat) (l : List UInt8) : List Bs :=
  if _h : n = 0 then [] else
    ⟨A, min n 4096, c, l.take (min n 4096)⟩ :: chunkBs (if c = min n 4096 then A else A.map (·.add (min n 4096))) (n - min n 4096) (c - min n 4096) (l.drop (min n 4096))
termination_by n
decreasing_by omega

theorem chunkBs_zero (A : Option Addr) (c : Nat) (l : List UInt8) : chunkBs A 0 c l = [] := by rw [chunkBs]; simp
theorem chunkBs_pos (A : Option Addr) {n : Nat} (c : Nat) (l : List UInt8) (h : n ≠ 0) : chunkBs A n c l = ⟨A, min n 4096, c, l.take (min n 4096)⟩ :: chunkBs (if c = min n 4096 then A else A.map (·.add (min n 4096))) (n - min n 4096) (c - min n 4096) (l.drop (min n 4096)) := by
  rw [chunkBs, dif_neg h]

theorem chunkBs_is (m : Nat) : ∀ (A : Option Addr) (n c : Nat) (l : List UInt8) (w : World) (S : Nat → Prop), n ≤ m → Rd w A n (by8 l) → n ≤ c → (∀ b, blkOf A = some b → ¬ S b) →
    (∀ x ∈ chunkBs A n c l, Rd w x.A x.n (by8 x.l) ∧ x.n ≤ 4096 ∧ x.n ≤ x.c ∧ x.c ≤ c ∧ x.n ≠ 0 ∧ ∀ b, blkOf x.A = some b → ¬ S b) ∧ flat (chunkBs A n c l) = l := by
  induction m with
  | zero =>
    intro A n c l w S hm h _ _
    obtain rfl : n = 0 := by omega
    rw [chunkBs_zero]
    have hl : l = [] := List.eq_nil_of_length_eq_zero (by simpa using h.1)
    exact ⟨by simp, by rw [hl]; rfl⟩
  | succ m ih =>
    intro A n c l w S hm h hc hS
    by_cases h0 : n = 0
    · subst h0
      rw [chunkBs_zero]
      have hl : l = [] := List.eq_nil_of_length_eq_zero (by simpa using h.1)
      exact ⟨by simp, by rw [hl]; rfl⟩
    · rw [chunkBs_pos A c l h0]
      have hcut := h.cut (k := min n 4096) (cap := c) (by omega) hc
      rw [← by8_drop] at hcut
      have hoff : Off S (if c = min n 4096 then A else A.map (·.add (min n 4096))) := Off.cut hS
      obtain ⟨h1, h2⟩ := ih _ (n - min n 4096) (c - min n 4096) (l.drop (min n 4096)) w S (by omega) hcut (by omega) hoff
      refine ⟨fun x hx => ?_, by simp only [flat]; rw [h2, List.take_append_drop]⟩
      rcases List.mem_cons.1 hx with rfl | hx
      · refine ⟨by simpa [by8_take] using h.take (k := min n 4096) (by omega), ?_, ?_, Nat.le_refl _, ?_, hS⟩
        · simp only; omega
        · simp only; omega
        · simp only; omega
      · obtain ⟨a1, a2, a3, a4, a5⟩ := h1 x hx
        exact ⟨a1, a2, a3, by omega, a5⟩

/-- how many bytes are left in the box. -/
def leftAt (bx : Nat) (W : World) : Nat := match W.cell? ⟨bx, 0, none⟩ with
  | some (.slice _ n _) => n
  | _ => 0

theorem left_set {bx : Nat} {W : World} {t : TypeId} {v : Value} (h : Blk W bx t #[v]) {A : Option Addr} {n c : Nat} : leftAt bx (W.setCell ⟨bx, 0, none⟩ (.slice A n c)) = n := by
  have : (W.setCell ⟨bx, 0, none⟩ (.slice A n c)).cell? ⟨bx, 0, none⟩ = some (.slice A n c) := (h.set_ 0 _).cell 0
  unfold leftAt
  rw [this]

set_option maxRecDepth 100000 in
set_option maxHeartbeats 1000000 in
theorem chunks1_seq (F : Fence) (n : Nat) (hF : F.fn 64) (hro : F.round = none) (hn : 1 ≤ n) (bx : Nat) (A : Option Addr) (N c : Nat) (L : List UInt8) (w : World)
    (hb : Blk w bx 31 #[.slice A N c]) (hc : N ≤ c) (hcm : c ≤ 9223372036854775807) :
    SeqT F n Tryz.prog 64 #[.pointer (some ⟨bx, 0, none⟩)] Bs.val (fun k => k = bx) (chunkBs A N c L) w := by
  intro l J Jx W hk hJ hJx hY h0
  have hbW : Blk W bx 31 #[.slice A N c] := (hk.same bx hb.lt rfl).trans hb
  refine callsIn_of_wp Tryz.func64 rfl hF ?_ hro
  simp only [Tryz.ntmps64, List.size_toArray, List.length_cons, List.length_nil, Nat.reduceAdd, Nat.reduceSub, Array.replicate_succ, Array.replicate_zero, List.push_toArray, List.append_toArray, List.nil_append, List.cons_append]
  gi_wp2
  gi_loopw [3] (fun v wr => ∃ (pre : List Bs) (A' : Option Addr) (n' c' : Nat) (l' : List UInt8), Blk wr bx 31 #[.slice A' n' c'] ∧ n' ≤ c' ∧ c' ≤ 9223372036854775807 ∧ Hid (chunkBs A N c L = pre ++ chunkBs A' n' c' l') ∧ J pre wr) (fun _ wr => leftAt bx wr)
  case atStart => exact ⟨[], A, N, c, L, hbW, hc, hcm, rfl, h0⟩
  case round =>
    obtain ⟨pre, A', n', c', l', hbr, hnc, hcm', HX, hj⟩ := hrel
    have c0 : wr.cell? ⟨bx, 0, none⟩ = some (.slice A' n' c') := hbr.cell 0
    by_cases hz : n' = 0
    · subst hz
      have HX' := HX.out
      rw [chunkBs_zero, List.append_nil] at HX'
      have HXX := Lib.hid HX'
      clear HX'
      gi_wp2
      go_end0
      exact ⟨⟨_, rfl⟩, .inl (by rw [HXX.out]; exact hj)⟩
    · have HX' := HX.out
      rw [chunkBs_pos A' c' l' hz] at HX'
      have key : ∃ k, k = min n' 4096 ∧ (k = n' ∧ n' ≤ 4096 ∨ k = 4096 ∧ 4096 < n') := ⟨_, rfl, by omega⟩
      obtain ⟨k, hk1, hk2⟩ := key
      rw [← hk1] at HX'
      have hpre : pre ++ [(⟨A', k, c', l'.take k⟩ : Bs)] <+: chunkBs A N c L := by
        rw [HX']
        exact ⟨_, by rw [List.append_assoc]; rfl⟩
      obtain ⟨fn, tmps, assign, body, hy, hR⟩ := hY pre ⟨A', k, c', l'.take k⟩ wr hpre hj
      simp only [Bs.val] at hy
      have HX2 : Hid (chunkBs A N c L = (pre ++ [⟨A', k, c', l'.take k⟩]) ++ chunkBs (if c' = k then A' else A'.map (·.add k)) (n' - k) (c' - k) (l'.drop k)) := by
        show chunkBs A N c L = _
        rw [HX']; simp
      have hkc : k ≤ c' := by omega
      have hkn : k ≤ n' := by omega
      have hn0 : 0 < n' := by omega
      have hmeas : leftAt bx wr = n' := by unfold leftAt; rw [c0]
      have HME := Lib.hid hmeas
      clear hmeas HX' HX hk1
      have hnl := c'.le_refl
      by_cases hck : c' = k
      · have HX3 : Hid (chunkBs A N c L = (pre ++ [⟨A', k, c', l'.take k⟩]) ++ chunkBs A' (n' - k) (c' - k) (l'.drop k)) := by
          have := HX2.out
          rwa [if_pos hck] at this
        clear HX2
        rcases hk2 with ⟨rfl, h4⟩ | ⟨rfl, h4⟩
        · subst hck
          gi_wp2
          refine hR.mono ?_
          rintro e W3 (⟨rfl, hj3, hk3⟩ | ⟨rfl, hx3⟩)
          · have hb3 : Blk W3 bx 31 #[.slice A' c' c'] := (hk3.same bx hbr.lt rfl).trans hbr
            have c3 : W3.cell? ⟨bx, 0, none⟩ = some (.slice A' c' c') := hb3.cell 0
            have f3 := hb3.frozen 0
            gi_wp2
            go_roundw
            case rel => exact ⟨_, A', c' - c', c' - c', l'.drop c', by simpa using hb3.set_ 0 (.slice A' (c' - c') (c' - c')), by omega, by omega, HX3, hJ _ _ _ hj3 ((Mod.refl _ W3).set1 0 _)⟩
            case measure => rw [HME.out, left_set hb3]; omega
          · gi_wp2
            refine bodyPost_ret (results_none rfl _ _ _) rfl ?_
            exact ⟨⟨_, rfl⟩, .inr ⟨_, hpre, hx3⟩⟩
        · omega
      · have HX3 : Hid (chunkBs A N c L = (pre ++ [⟨A', k, c', l'.take k⟩]) ++ chunkBs (A'.map (·.add k)) (n' - k) (c' - k) (l'.drop k)) := by
          have := HX2.out
          rwa [if_neg hck] at this
        clear HX2
        cases A' with
        | none =>
          rcases hk2 with ⟨rfl, h4⟩ | ⟨rfl, h4⟩
          all_goals
            gi_wp2
            refine hR.mono ?_
            rintro e W3 (⟨rfl, hj3, hk3⟩ | ⟨rfl, hx3⟩)
            · have hb3 := (hk3.same bx hbr.lt rfl).trans hbr
              have hb3' : Blk W3 bx 31 _ := hb3
              have c3 := hb3'.cell 0
              have f3 := hb3'.frozen 0
              simp only [List.getElem?_toArray, List.getElem?_cons_zero] at c3
              gi_wp2
              go_roundw
              case rel => exact ⟨_, none, _, _, _, hb3'.set_ 0 _, by omega, by omega, (by first | exact HX3 | (have h9 := HX3.out; simp only [Nat.sub_self, Option.map_none] at h9; exact h9)), hJ _ _ _ hj3 ((Mod.refl _ W3).set1 0 _)⟩
              case measure => rw [HME.out, left_set hb3']; omega
            · gi_wp2
              refine bodyPost_ret (results_none rfl _ _ _) rfl ?_
              exact ⟨⟨_, rfl⟩, .inr ⟨_, hpre, hx3⟩⟩
        | some a =>
          rcases hk2 with ⟨rfl, h4⟩ | ⟨rfl, h4⟩
          all_goals
            gi_wp2
            refine hR.mono ?_
            rintro e W3 (⟨rfl, hj3, hk3⟩ | ⟨rfl, hx3⟩)
            · have hb3 := (hk3.same bx hbr.lt rfl).trans hbr
              have hb3' : Blk W3 bx 31 _ := hb3
              have c3 := hb3'.cell 0
              have f3 := hb3'.frozen 0
              simp only [List.getElem?_toArray, List.getElem?_cons_zero] at c3
              gi_wp2
              go_roundw
              case rel => exact ⟨_, _, _, _, _, hb3'.set_ 0 _, by omega, by omega, (by first | exact HX3 | (have h9 := HX3.out; simp only [Option.map_some] at h9; exact h9) | (have h9 := HX3.out; simp only [Nat.sub_self, Option.map_some] at h9; exact h9)), hJ _ _ _ hj3 ((Mod.refl _ W3).set1 0 _)⟩
              case measure => rw [HME.out, left_set hb3']; omega
            · gi_wp2
              refine bodyPost_ret (results_none rfl _ _ _) rfl ?_
              exact ⟨⟨_, rfl⟩, .inr ⟨_, hpre, hx3⟩⟩

end Go.Proofs.YtgdamcimpgapgaaGreatDoor
