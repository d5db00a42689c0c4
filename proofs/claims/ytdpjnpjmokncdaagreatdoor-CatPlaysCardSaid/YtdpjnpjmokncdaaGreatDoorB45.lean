/- slices.Chunk at 4096 and its iterator. -/
import Derived.Test.YtdpjnpjmokncdaaGreatDoorB40
import Derived.Test.YtdpjnpjmokncdaaGreatDoorB39
import Derived.Sort.QuietIn
namespace Go.Proofs.YtdpjnpjmokncdaaGreatDoor
open Go.RowKit

/-- the pieces that slices.Chunk tells from index i on; l: the bytes from there. -/
def chunkC (A : Option Addr) (n i : Nat) (l : List UInt8) : List Bs :=
  if _h : i < n then ⟨A.map (·.add i), min 4096 (n - i), min 4096 (n - i), l.take 4096⟩ :: chunkC A n (i + 4096) (l.drop 4096) else []
termination_by n - i
decreasing_by omega

theorem chunkC_end (A : Option Addr) {n i : Nat} (l : List UInt8) (h : ¬ i < n) : chunkC A n i l = [] := by rw [chunkC, dif_neg h]
theorem chunkC_pos (A : Option Addr) {n i : Nat} (l : List UInt8) (h : i < n) : chunkC A n i l = ⟨A.map (·.add i), min 4096 (n - i), min 4096 (n - i), l.take 4096⟩ :: chunkC A n (i + 4096) (l.drop 4096) := by rw [chunkC, dif_pos h]

theorem chunkC_l (m : Nat) : ∀ (A : Option Addr) (n i : Nat) (l : List UInt8), n - i ≤ m → l.length = n - i → (chunkC A n i l).map (·.l) = piecesB l := by
  induction m with
  | zero =>
    intro A n i l hm hl
    rw [chunkC_end A l (by omega), piecesB, dif_pos (by omega)]
    rfl
  | succ m ih =>
    intro A n i l hm hl
    by_cases h0 : i < n
    · rw [chunkC_pos A l h0, piecesB, dif_neg (by omega), List.map_cons, ih _ _ _ _ (by omega) (by rw [List.length_drop]; omega)]
    · rw [chunkC_end A l h0, piecesB, dif_pos (by omega)]
      rfl
theorem blkOf_add (A : Option Addr) (i : Nat) : blkOf (A.map (·.add i)) = blkOf A := by
  cases A with
  | none => rfl
  | some a =>
    simp only [blkOf, Option.map_some, Addr.add]
    split <;> rfl
theorem chunkC_is (m : Nat) : ∀ (A : Option Addr) (n i : Nat) (L : List UInt8) (w : World), n - i ≤ m → Rd w A n (by8 L) →
    ∀ x ∈ chunkC A n i (L.drop i), Rd w x.A x.n (by8 x.l) ∧ x.n ≤ 4096 ∧ x.n ≤ x.c ∧ x.c ≤ 4096 ∧ x.n ≠ 0 ∧ blkOf x.A = blkOf A := by
  induction m with
  | zero =>
    intro A n i L w hm h x hx
    rw [chunkC_end A _ (by omega)] at hx
    cases hx
  | succ m ih =>
    intro A n i L w hm h x hx
    by_cases h0 : i < n
    · rw [chunkC_pos A _ h0] at hx
      rcases List.mem_cons.1 hx with rfl | hx
      · have hcut := h.cut (k := i) (cap := n) (by omega) (Nat.le_refl _)
        rw [if_neg (by omega), ← by8_drop] at hcut
        have htk := hcut.take (k := min 4096 (n - i)) (by omega)
        rw [← by8_take] at htk
        have hl : L.length = n := by simpa using h.1
        have he : (L.drop i).take (min 4096 (n - i)) = (L.drop i).take 4096 := by
          rcases Nat.le_total 4096 (n - i) with h1 | h1
          · rw [Nat.min_eq_left h1]
          · rw [Nat.min_eq_right h1, List.take_of_length_le (by rw [List.length_drop]; omega), List.take_of_length_le (by rw [List.length_drop]; omega)]
        rw [he] at htk
        refine ⟨htk, ?_, Nat.le_refl _, ?_, ?_, blkOf_add A i⟩
        · simp only; omega
        · simp only; omega
        · simp only; omega
      · rw [List.drop_drop] at hx
        exact ih A n (i + 4096) L w (by omega) h x hx
    · rw [chunkC_end A _ h0] at hx
      cases hx

set_option maxRecDepth 100000 in
set_option maxHeartbeats 400000 in
theorem chunkS_any (A : Option Addr) (n c : Nat) (w : World) : Calls Tryz.prog 81 #[.slice A n c, .int .i64 4096] w fun e w' =>
    e = .returned (.func (.func 126) #[] #[.pointer (some ⟨w.heap.size, 0, none⟩), .pointer (some ⟨w.heap.size + 1, 0, none⟩)]) ∧ (w.alloc (.cells #[.slice A n c] 44)).alloc (.cells #[.int .i64 4096] 3) = w' := by
  go_enter Tryz.func81, Tryz.ntmps81
  go_wp2_with fail
  go_ret
  exact ⟨rfl, rfl⟩

/-- the index in the slot. -/
def idxV (v : Value) : Nat := match v with
  | .int _ i => i.toNat
  | _ => 0

set_option maxRecDepth 100000 in
set_option maxHeartbeats 2000000 in
theorem chunkS_seq (n : Nat) (hn : 1 ≤ n) (b1 b2 : Nat) (A : Option Addr) (N c : Nat) (L : List UInt8) (w : World)
    (hb1 : Blk w b1 44 #[.slice A N c]) (hb2 : Blk w b2 3 #[.int .i64 4096]) (hNc : N ≤ c) (_hcm : c ≤ 9223372036854775807) (hN : N ≤ 140737488355328) :
    SeqT Fence.wide n Tryz.prog 126 #[.pointer (some ⟨b1, 0, none⟩), .pointer (some ⟨b2, 0, none⟩)] Bs.val (fun k => k = b1 ∨ k = b2) (chunkC A N 0 L) w := by
  intro l J Jx W hk hJ hJx hY h0
  have hbW1 : Blk W b1 44 #[.slice A N c] := (hk.same b1 hb1.lt (.inl rfl)).trans hb1
  have hbW2 : Blk W b2 3 #[.int .i64 4096] := (hk.same b2 hb2.lt (.inr rfl)).trans hb2
  refine callsIn_of_wp Tryz.func126 rfl trivial ?_ rfl
  simp only [Tryz.ntmps126, List.size_toArray, List.length_cons, List.length_nil, Nat.reduceAdd, Nat.reduceSub, Array.replicate_succ, Array.replicate_zero, List.push_toArray, List.append_toArray, List.nil_append, List.cons_append]
  gi_wp2
  gi_loopw [4] (fun v wr => ∃ (pre : List Bs) (i : Nat) (l' : List UInt8), v = .int .i64 i ∧ i ≤ N + 4096 ∧ Blk wr b1 44 #[.slice A N c] ∧ Blk wr b2 3 #[.int .i64 4096] ∧ Hid (chunkC A N 0 L = pre ++ chunkC A N i l') ∧ J pre wr) (fun v _ => N + 4096 - idxV v)
  case atStart => exact ⟨[], 0, L, rfl, by omega, hbW1, hbW2, rfl, h0⟩
  case round =>
    obtain ⟨pre, i, l', rfl, hi, hbr1, hbr2, HX, hj⟩ := hrel
    have c1 : wr.cell? ⟨b1, 0, none⟩ = some (.slice A N c) := hbr1.cell 0
    have c2 : wr.cell? ⟨b2, 0, none⟩ = some (.int .i64 4096) := hbr2.cell 0
    by_cases hz : i < N
    · have HX' := HX.out
      rw [chunkC_pos A l' hz] at HX'
      have hpre : pre ++ [(⟨A.map (·.add i), min 4096 (N - i), min 4096 (N - i), l'.take 4096⟩ : Bs)] <+: chunkC A N 0 L := by
        rw [HX']
        exact ⟨_, by rw [List.append_assoc]; rfl⟩
      have key : ∃ k, k = min 4096 (N - i) ∧ k ≤ N - i ∧ 1 ≤ k := ⟨_, rfl, by omega, by omega⟩
      obtain ⟨k, hk1, hk2, hk3⟩ := key
      rw [← hk1] at HX' hpre
      have HX2 : Hid (chunkC A N 0 L = (pre ++ [⟨A.map (·.add i), k, k, l'.take 4096⟩]) ++ chunkC A N (i + 4096) (l'.drop 4096)) := by
        show chunkC A N 0 L = _
        rw [HX']; simp
      have hne : ¬ c = i := by omega
      have hmin : min (4096 : Int) ((N - i : Nat) : Int) = (k : Int) := by omega
      have HMIN := Lib.hid hmin
      have hmx : Tryz.prog.follows .mixedOrders = true := by kernel_rfl
      clear HX' HX hk1 hmin
      gi_wp2
      gi_quiet (fail)
      rw [HMIN.out]
      obtain ⟨fn, tmps, assign, body, hy, hR⟩ := hY pre _ (wr.drewN nq) hpre (hJ _ _ _ hj ((Mod.refl _ wr).drewN nq))
      simp only [Bs.val] at hy
      gi_wp2
      all_goals
        refine hR.mono ?_
        rintro e W3 (⟨rfl, hj3, hk4⟩ | ⟨rfl, hx3⟩)
        · have hb13 : Blk W3 b1 44 #[.slice A N c] := (hk4.same b1 hbr1.lt (.inl rfl)).trans hbr1
          have hb23 : Blk W3 b2 3 #[.int .i64 4096] := (hk4.same b2 hbr2.lt (.inr rfl)).trans hbr2
          have c13 : W3.cell? ⟨b1, 0, none⟩ = some (.slice A N c) := hb13.cell 0
          have c23 : W3.cell? ⟨b2, 0, none⟩ = some (.int .i64 4096) := hb23.cell 0
          gi_wp2
          go_roundw
          case rel => exact ⟨_, i + 4096, l'.drop 4096, by go_num, by omega, hb13, hb23, HX2, hj3⟩
          case measure => simp [idxV]; omega
        · gi_wp2
          refine bodyPost_ret (results_none rfl _ _ _) rfl ?_
          exact ⟨⟨_, rfl⟩, .inr ⟨_, hpre, hx3⟩⟩
    · have HX' := HX.out
      rw [chunkC_end A l' hz, List.append_nil] at HX'
      have HXX := Lib.hid HX'
      clear HX'
      gi_wp2
      go_end0
      exact ⟨⟨_, rfl⟩, .inl (by rw [HXX.out]; exact hj)⟩

end Go.Proofs.YtdpjnpjmokncdaaGreatDoor
