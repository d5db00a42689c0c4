/- code.high at 4 and at 8. -/
import Derived.Test.YtdpjnpjmokncdaaGreatDoorB08
import Derived.Lib.AppendZeros
namespace Go.Proofs.YtdpjnpjmokncdaaGreatDoor
open Go.RowKit

set_option maxHeartbeats 400000 in
theorem high4_raw (x : Int) (w : World) (_hx : 0 ≤ x) (_hx2 : x < 18446744073709551616) :
    Calls Tryz.prog 125 #[.int .u64 x, .int .i64 4] w fun e w' => e = .returned (.slice (some ⟨w.heap.size, 0, none⟩) 4 4) ∧
      w.alloc (.cells #[.int .u8 (x / 256 / 256 / 256 % 256), .int .u8 (x / 256 / 256 % 256), .int .u8 (x / 256 % 256), .int .u8 (x % 256)] 5) = w' := by
  have hmk : ∀ w, (Instr.makeSlice 44 (.int .i64 4) (.int .i64 4)).run Tryz.prog w = .ok (.slice (some ⟨w.heap.size, 0, none⟩) 4 4) (w.alloc (.cells #[.int .u8 0, .int .u8 0, .int .u8 0, .int .u8 0] 5)) := fun _ => by kernel_rfl
  go_enter Tryz.func125, Tryz.ntmps125
  go_wp2
  refine wp_loop_rounds 5 ?_
  rw [rounds_succ]; go_wp2
  rw [rounds_succ]; go_wp2
  rw [rounds_succ]; go_wp2
  rw [rounds_succ]; go_wp2
  rw [rounds_succ]; go_wp2
  go_ret
  exact ⟨rfl, rfl⟩

/-- the lowest byte of a number. -/
def lowB (y : Int) : UInt8 := UInt8.ofNat (y % 256).toNat
theorem b8_lowB (y : Int) : b8 (lowB y) = .int .u8 (y % 256) := by
  unfold b8 lowB
  have h1 := Int.emod_nonneg y (show (256 : Int) ≠ 0 by omega)
  have h2 := Int.emod_lt_of_pos y (show (0 : Int) < 256 by omega)
  have : (UInt8.ofNat (y % 256).toNat).toNat = (y % 256).toNat := by simp [UInt8.toNat_ofNat']; omega
  rw [this]
  congr 1
  omega
def high4 (x : Int) : List UInt8 := [lowB (x / 256 / 256 / 256), lowB (x / 256 / 256), lowB (x / 256), lowB x]

theorem high4_any (x : Int) (w : World) (hx : 0 ≤ x) (hx2 : x < 18446744073709551616) :
    Calls Tryz.prog 125 #[.int .u64 x, .int .i64 4] w fun e w' => ∃ A' c', e = .returned (.slice A' 4 c') ∧ w'.ownsRow w.heap.size 5 1 (.slice A' 4 c') 4 (by8 (high4 x)) ∧ Below w.heap.size w w' := by
  refine (high4_raw x w hx hx2).mono ?_
  rintro e w' ⟨rfl, rfl⟩
  refine ⟨_, _, rfl, ?_, (Below.refl _ w).alloc (Nat.le_refl _) _⟩
  have := World.ownsRow_lit (e := 5) (base := w.heap.size) (size := 1) w #[.int .u8 (x / 256 / 256 / 256 % 256), .int .u8 (x / 256 / 256 % 256), .int .u8 (x / 256 % 256), .int .u8 (x % 256)] 4 (Nat.le_refl _) (by simp [maxLen]) rfl
  simpa [by8, high4, b8_lowB] using this

theorem grow_run (n : Nat) (w : World) (h0 : 0 < n) (hn : n ≤ 140737488355328) (ty : TypeId) : ∃ cur : Array Value, cur.size = grownCap w n 0 5 * 1 ∧
    (Builtin.append_ #[44, 3] ty #[.slice none 0 0, .int .i64 n]).run Tryz.prog w = .ok (.slice (some ⟨w.heap.size, 0, none⟩) n (grownCap w n 0 5)) (w.drew.alloc (.cells cur 5)) := by
  obtain ⟨i, hi, hz, hs1, hb⟩ := bt.info
  refine ⟨_, ?_, Lib.run_append_nil_zeros (P := Tryz.prog) w 44 3 ty 5 i (.int .u8 0) .i64 .i64 bt.sl Tryz.underlying3 hi hz n h0 (by omega) (by omega) (by rw [hb]; omega)⟩
  have := grownCap_ge w n 0 5
  simp [Builtin.zeroCells, Value.cells]; omega

set_option maxRecDepth 100000 in
set_option maxHeartbeats 400000 in
/-- 'slices.Grow(nil, n)'. -/
theorem grow_any (n : Nat) (w : World) (hn : n ≤ 140737488355328) :
    Calls Tryz.prog 93 #[.slice none 0 0, .int .i64 n] w fun e w' => ∃ A' c', e = .returned (.slice A' 0 c') ∧ w'.ownsRow w.heap.size 5 1 (.slice A' 0 c') 0 (by8 []) ∧ Below w.heap.size w w' := by
  rcases Nat.eq_zero_or_pos n with rfl | h0
  · go_enter Tryz.func93, Tryz.ntmps93
    go_wp2
    go_ret
    exact ⟨none, 0, rfl, World.ownsRow_nil _ _ _ _, Below.refl _ _⟩
  · obtain ⟨cur, hsz, hrun⟩ := grow_run n w h0 hn 44
    have hH := Lib.hid hrun
    have hS := Lib.hid hsz
    clear hrun hsz
    have hge := grownCap_ge w n 0 5
    have hle := grownCap_le_maxLen w n 0 5 (by simp only [maxLen]; omega)
    unfold maxLen at hle
    generalize grownCap w n 0 5 = cc at *
    go_enter Tryz.func93, Tryz.ntmps93
    go_wp2_with (at_builtin; refine Lib.wpList_append_run _ rfl (.tmp 20) (.tmp 21) 44 3 rfl (.slice none 0 0) (.int .i64 n) rfl rfl _ _ hH.out ?_)
    go_ret
    refine ⟨_, _, rfl, ?_, ((Below.refl _ w).drew).alloc (Nat.le_refl _) _⟩
    exact World.ownsRow_made _ _ _ (Nat.le_refl _) (by simp only [maxLen]; omega) hS.out

end Go.Proofs.YtdpjnpjmokncdaaGreatDoor

/- slices.Concat at bytes; code.PutNum. -/
namespace Go.Proofs.YtdpjnpjmokncdaaGreatDoor
open Go.RowKit

/-- a slice of bytes as it lies. -/
structure Bs where
  A : Option Addr
  n : Nat
  c : Nat
  l : List UInt8
def Bs.val (b : Bs) : Value := .slice b.A b.n b.c
def flat : List Bs → List UInt8
  | [] => []
  | b :: r => b.l ++ flat r
theorem flat_append (p q : List Bs) : flat (p ++ q) = flat p ++ flat q := by
  induction p with
  | nil => rfl
  | cons b p ih => simp [flat, ih]
theorem take_snoc' {α : Type} (l : List α) (k : Nat) (c : α) (h : l[k]? = some c) : l.take (k + 1) = l.take k ++ [c] := by
  obtain ⟨hk, e⟩ := List.getElem?_eq_some_iff.1 h
  rw [List.take_succ_eq_append_getElem hk, e]
theorem flat_take_le (p : List Bs) (k : Nat) : (flat (p.take k)).length ≤ (flat p).length := by
  conv => rhs; rw [← List.take_append_drop k p, flat_append]
  simp

set_option maxRecDepth 100000 in
set_option maxHeartbeats 1000000 in
theorem concat_any (A : Option Addr) (n c : Nat) (p : List Bs) (w : World) (h : Rd w A n (p.map Bs.val)) (hp : ∀ b ∈ p, Rd w b.A b.n (by8 b.l)) (ht : (flat p).length ≤ 140737488355328) (hn : n ≤ 140737488355328) :
    Calls Tryz.prog 55 #[.slice A n c] w fun e w' => ∃ A' c', e = .returned (.slice A' (flat p).length c') ∧ w'.ownsRow w.heap.size 5 1 (.slice A' (flat p).length c') (flat p).length (by8 (flat p)) ∧ Below w.heap.size w w' := by
  have hl : p.length = n := by simpa using h.1
  have hround : ∀ k, k < n → ∃ b o q, A = some ⟨b, o, none⟩ ∧ p[k]? = some q ∧ w.cell? ⟨b, o + k, none⟩ = some q.val ∧ Rd w q.A q.n (by8 q.l) ∧ q.l.length = q.n ∧ flat (p.take (k + 1)) = flat (p.take k) ++ q.l := by
    intro k hk
    obtain ⟨b, o, rfl, u, hu, hc⟩ := h.at_ hk
    rw [List.getElem?_map] at hu
    cases hx : p[k]? with
    | none => rw [hx] at hu; cases hu
    | some q =>
      rw [hx] at hu
      simp only [Option.map_some, Option.some.injEq] at hu
      subst hu
      have hr := hp q (List.mem_of_getElem? hx)
      exact ⟨b, o, q, rfl, rfl, hc, hr, by simpa using hr.1, by rw [take_snoc' p k q hx, flat_append]; simp [flat]⟩
  have hle := fun k => Nat.le_trans (flat_take_le p k) ht
  go_enter Tryz.func55, Tryz.ntmps55
  go_wp2
  go_loop [3, 5, 11] (fun x s i => ∃ k : Nat, k ≤ n ∧ i = .int .i64 k ∧ x = .int .i64 ((flat (p.take k)).length : Nat)) (fun _ _ i => n - (intOf i).toNat)
  case atStart => exact ⟨0, Nat.zero_le _, rfl, rfl⟩
  case round =>
    obtain ⟨k, hk, rfl, rfl⟩ := hrel
    by_cases hlt : k < n
    · obtain ⟨b, o, q, rfl, hq, hc, hr, hlq, hf⟩ := hround k hlt
      have h1 := hle k
      have h2 := hle (k + 1)
      have hL : (flat (p.take (k + 1))).length = (flat (p.take k)).length + q.n := by rw [hf, List.length_append, hlq]
      clear hround hle hf hq hlq hr
      have HL := Lib.hid hL
      rw [hL] at h2
      clear hL
      generalize (flat (p.take k)).length = z at *
      cases q with | mk qA qn qc ql =>
      simp only [Bs.val] at hc h2 HL
      go_wp2
      go_round
      case rel => exact ⟨k + 1, by omega, by go_num, by rw [HL.out]; go_num⟩
      case measure => simp [intOf]; omega
    · obtain rfl : k = n := by omega
      have e0 : p.take k = p := List.take_of_length_le (by omega)
      rw [e0]
      clear e0
      go_wp2_with (go_at_call 93; refine (grow_any _ _ ht).mono ?_; rintro e w1 ⟨A1, c1, rfl, ho1, hb1⟩)
      go_loopw [6, 8, 27] (fun v s i wr => ∃ (j : Nat) (A' : Option Addr) (c' : Nat), j ≤ k ∧ i = .int .i64 j ∧ v = .slice A' (flat (p.take j)).length c' ∧ wr.ownsRow w.heap.size 5 1 (.slice A' (flat (p.take j)).length c') (flat (p.take j)).length (by8 (flat (p.take j))) ∧ Below w.heap.size w wr) (fun _ _ i _ => k - (intOf i).toNat)
      case atStart => exact ⟨0, A1, c1, Nat.zero_le _, rfl, rfl, ho1, hb1⟩
      case round =>
        obtain ⟨j, A', c', hj, rfl, rfl, ho, hb⟩ := hrel
        by_cases hjl : j < k
        · obtain ⟨b, o, q, rfl, hq, hc, hr, hlq, hf⟩ := hround j hjl
          have h2 := hle (j + 1)
          have hL : (flat (p.take (j + 1))).length = (flat (p.take j)).length + q.n := by rw [hf, List.length_append, hlq]
          have hc' : wr.cell? ⟨b, o + j, none⟩ = some q.val := (Mod.of_below (S := Non) hb).cell hc (fun h => h)
          have hr' := hr.mod0 (Mod.of_below hb)
          clear hround hle hc hr
          have HF := Lib.hid hf
          have HL := Lib.hid hL
          rw [hL] at h2
          have HB := Lib.hid hb
          have hsz := hb.size
          clear hf hL hlq hq
          generalize hz : (flat (p.take j)).length = z at *
          clear hz
          cases q with | mk qA qn qc ql =>
          simp only [Bs.val] at hc' h2 HL hr'
          simp only at HF
          go_wp2_with (at_builtin; refine wpList_app8 bt _ rfl (.tmp 31) (.tmp 32) rfl w.heap.size (.slice A' z c') z (flat (p.take j)) rfl ho _ qn qc ql rfl hr' (z + qn) rfl (flat (p.take (j + 1))) HF.out.symm h2 hsz ?_; intro A2 c2 w2 hc2 ho2 hg2 hat2)
          go_roundw
          case rel => exact ⟨j + 1, A2, c2, by omega, by go_num, by rw [HL.out], by rw [HL.out]; exact ho2, HB.out.grown hg2 hsz (fun i hi => (ho.lt i hi).1)⟩
          case measure => simp [intOf]; omega
        · obtain rfl : j = k := by omega
          have e0 : p.take j = p := List.take_of_length_le (by omega)
          rw [e0] at ho
          rw [e0]
          clear e0
          go_wp2
          go_ret
          exact ⟨A', c', rfl, ho, hb⟩

end Go.Proofs.YtdpjnpjmokncdaaGreatDoor

/- code.PutNum. -/
namespace Go.Proofs.YtdpjnpjmokncdaaGreatDoor
open Go.RowKit

/-- a byte with the sign that more come. -/
def moreB (r : Nat) : UInt8 := UInt8.ofNat (bits BinOp.or IntKind.u8 ((r : Int) % 256) 128).toNat
theorem b8_moreB (r : Nat) : b8 (moreB r) = .int .u8 (bits BinOp.or IntKind.u8 ((r : Int) % 256) 128) := by
  have h := bits_u8 .or ((r : Int) % 256) 128
  unfold b8 moreB
  have : (UInt8.ofNat (bits BinOp.or IntKind.u8 ((r : Int) % 256) 128).toNat).toNat = (bits BinOp.or IntKind.u8 ((r : Int) % 256) 128).toNat := by
    rw [UInt8.toNat_ofNat', Nat.mod_eq_of_lt (by omega)]
  rw [this]
  exact congrArg (Value.int .u8) (by omega)
def numB (n : Nat) : List UInt8 := if n < 128 then [lowB n] else moreB n :: numB (n / 128)
termination_by n
decreasing_by omega
theorem numB_more {n : Nat} (h : 128 ≤ n) : numB n = moreB n :: numB (n / 128) := by rw [numB, if_neg (by omega)]
theorem numB_last {n : Nat} (h : n < 128) : numB n = [lowB n] := by rw [numB, if_pos h]
theorem numB_len (k : Nat) : ∀ n : Nat, n < 128 ^ (k + 1) → (numB n).length ≤ k + 1 := by
  induction k with
  | zero => intro n hn; rw [numB_last (by simpa using hn)]; simp
  | succ k ih =>
    intro n hn
    by_cases h : n < 128
    · rw [numB_last h]; simp
    · rw [numB_more (by omega)]
      have := ih (n / 128) (by rw [Nat.div_lt_iff_lt_mul (by omega)]; rw [Nat.pow_succ] at hn; omega)
      simp; omega
theorem numB_len9 {n : Nat} (h : n ≤ 4611686018427387903) : (numB n).length ≤ 9 := numB_len 8 n (by omega)
theorem numB_pos (n : Nat) : 0 < (numB n).length := by
  by_cases h : n < 128
  · rw [numB_last h]; simp
  · rw [numB_more (by omega)]; simp

/-- the number that is laid. -/
def clampN (x : Int) : Nat := (min (max x 0) 4611686018427387903).toNat
theorem clampN_le (x : Int) : clampN x ≤ 4611686018427387903 := by unfold clampN; omega
theorem clampN_of {n : Nat} (h : n ≤ 4611686018427387903) : clampN n = n := by unfold clampN; omega

set_option maxRecDepth 100000 in
set_option maxHeartbeats 1000000 in
theorem putNum_any (A : Option Addr) (n c : Nat) (l : List UInt8) (x : Int) (w : World) (h : Rd w A n (by8 l)) (hn : n ≤ 140737488351232) :
    Calls Tryz.prog 79 #[.slice A n c, .int .i64 x] w fun e w' => ∃ A' c', e = .returned (.slice A' (n + (numB (clampN x)).length) c') ∧
      w'.ownsRow w.heap.size 5 1 (.slice A' (n + (numB (clampN x)).length) c') (n + (numB (clampN x)).length) (by8 (l ++ numB (clampN x))) ∧ Below w.heap.size w w' := by
  have hN := clampN_le x
  have h9 := numB_len9 hN
  generalize hc : clampN x = N at *
  unfold clampN at hc
  have h3 : x < 0 ∧ N = 0 ∨ 0 ≤ x ∧ x ≤ 4611686018427387903 ∧ x = N ∨ 4611686018427387903 < x ∧ N = 4611686018427387903 := by omega
  clear hc
  obtain ⟨L, hL⟩ : ∃ L, numB N = L := ⟨_, rfl⟩
  rw [hL] at h9 ⊢
  rcases h3 with ⟨hx, rfl⟩ | ⟨hx, hx2, rfl⟩ | ⟨hx, rfl⟩
  all_goals
    have HL : Hid ([] ++ numB _ = L) := hL
    clear hL
    go_enter Tryz.func79, Tryz.ntmps79
    go_wp2_with fail
    go_loopw [1, 5] (fun x v wr => ∃ (r : Nat) (d : List UInt8) (A' : Option Addr) (c' : Nat), x = .int .i64 r ∧ v = .slice A' d.length c' ∧ wr.ownsRow w.heap.size 5 1 (.slice A' d.length c') d.length (by8 d) ∧ Below w.heap.size w wr ∧ Hid (d ++ numB r = L) ∧ r ≤ 4611686018427387903 ∧ d.length ≤ 9) (fun x _ _ => (intOf x).toNat)
    case atStart => exact ⟨_, [], none, 0, rfl, rfl, World.ownsRow_nil _ _ _ _, Below.refl _ _, HL, by omega, by simp⟩
    case round =>
      obtain ⟨r, d, A', c', rfl, rfl, ho, hb, HD, hr, hd⟩ := hrel
      have HB := Lib.hid hb
      have hsz := hb.size
      clear hb
      by_cases hlt : 128 ≤ r
      · have hL : L.length = d.length + (numB r).length := by rw [← HD.out]; simp
        have hp := numB_pos (r / 128)
        have H2 : Hid (d ++ [moreB r] ++ numB (r / 128) = L) := by
          have := HD.out
          rw [numB_more hlt] at this
          show d ++ [moreB r] ++ numB (r / 128) = L
          simpa using this
        have hL2 : d.length + 1 + (numB (r / 128)).length = L.length := by rw [← H2.out]; simp; omega
        have hone := one_byte wr 5 (moreB r)
        rw [b8_moreB] at hone
        have HO := Lib.hid hone
        have hd2 : d.length + 1 ≤ 9 := by omega
        clear hL hL2 hone HD
        go_wp2_with (at_builtin; refine wpList_app8 bt _ rfl (.tmp 13) (.tmp 17) rfl w.heap.size (.slice A' d.length c') d.length d rfl (ho.alloc _) _ 1 1 [moreB r] rfl HO.out (d.length + 1) rfl (d ++ [moreB r]) rfl (by omega) (by simp; omega) ?_; intro A2 c2 w2 hc2 ho2 hg2 hat2)
        go_roundw
        case rel =>
          refine ⟨r / 128, d ++ [moreB r], A2, c2, ?_, by simp, by simpa using ho2, (HB.out.alloc hsz _).grown hg2 (by simp; omega) (fun i hi => (ho.lt i hi).1), H2, by omega, by simpa using hd2⟩
          congr 1
        case measure => simp [intOf]; omega
      · have hlt : r < 128 := by omega
        have hq : (r : Int) % 256 = r := by omega
        have hL : d ++ [lowB r] = L := by have := HD.out; rwa [numB_last hlt] at this
        have hone := one_byte wr 5 (lowB r)
        rw [b8_lowB, hq] at hone
        have HO := Lib.hid hone
        have HL2 := Lib.hid hL
        have hll : d.length + 1 = L.length := by rw [← hL]; simp
        clear hL hone HD hq
        have h' := (h.mod0 (Mod.of_below HB.out)).alloc (.cells #[.int .u8 r] 5)
        go_wp2_with (first
          | (at_builtin; refine wpList_app8 bt _ rfl (.tmp 20) (.tmp 23) rfl w.heap.size (.slice A' d.length c') d.length d rfl (ho.alloc _) _ 1 1 [lowB r] rfl HO.out L.length hll L HL2.out (by omega) (by simp; omega) ?_; intro A2 c2 w2 hc2 ho2 hg2 hat2)
          | (go_at_call 124
             go_loud (have hbw : Below w.heap.size w w2 := (HB.out.alloc hsz _).grown hg2 (by simp; omega) (fun i hi => (ho.lt i hi).1))
             go_loud (refine (laid_any A A2 n c L.length c2 l L _ (h.mod0 (Mod.of_below hbw)) (Rd.of_own ho2) (by omega)).mono ?_)
             rintro e w3 ⟨A3, c3, rfl, ho3, hb3⟩))
        go_ret
        exact ⟨A3, c3, rfl, own_mono ho3 hbw.size, hbw.trans (hb3.mono hbw.size)⟩

end Go.Proofs.YtdpjnpjmokncdaaGreatDoor

/- code.PutFrame. -/
namespace Go.Proofs.YtdpjnpjmokncdaaGreatDoor
open Go.RowKit

/-- a frame's bytes. -/
def frameB (l : List UInt8) : List UInt8 := numB l.length ++ (high4 (crcOf (numB l.length ++ l)) ++ l)

theorem flat4 (a b c d : Bs) : flat [a, b, c, d] = a.l ++ (b.l ++ (c.l ++ d.l)) := by simp [flat]

/-- four slices laid in a new block. -/
theorem rd_four (w : World) (t : TypeId) (a b c d : Bs) : Rd (w.alloc (.cells #[a.val, b.val, c.val, d.val] t)) (some ⟨w.heap.size, 0, none⟩) 4 ([a, b, c, d].map Bs.val) := by
  refine ⟨rfl, fun _ => ⟨w.heap.size, 0, rfl, fun j u hu => ?_⟩⟩
  rw [Nat.zero_add, World.cell?_alloc_new]
  match j, hu with
  | 0, hu => simpa using hu
  | 1, hu => simpa using hu
  | 2, hu => simpa using hu
  | 3, hu => simpa using hu
theorem rd_two (w : World) (t : TypeId) (a b : Bs) : Rd (w.alloc (.cells #[a.val, b.val] t)) (some ⟨w.heap.size, 0, none⟩) 2 ([a, b].map Bs.val) := by
  refine ⟨rfl, fun _ => ⟨w.heap.size, 0, rfl, fun j u hu => ?_⟩⟩
  rw [Nat.zero_add, World.cell?_alloc_new]
  match j, hu with
  | 0, hu => simpa using hu
  | 1, hu => simpa using hu

set_option maxRecDepth 100000 in
set_option maxHeartbeats 1000000 in
theorem putFrame_any (A B : Option Addr) (n c m d : Nat) (l k : List UInt8) (w : World) (h : Rd w A n (by8 l)) (g : Rd w B m (by8 k)) (hn : n + m ≤ 140737488351232) :
    Calls Tryz.prog 78 #[.slice A n c, .slice B m d] w fun e w' => ∃ A' n' c', e = .returned (.slice A' n' c') ∧ n' = (l ++ frameB k).length ∧
      w'.ownsRow w.heap.size 5 1 (.slice A' n' c') n' (by8 (l ++ frameB k)) ∧ Below w.heap.size w w' := by
  have hl : l.length = n := by simpa using h.1
  have hm : k.length = m := by simpa using g.1
  have h9 := numB_len9 (n := m) (by omega)
  have hcl : clampN (m : Int) = m := clampN_of (by omega)
  have hcr := crcOf_bd (numB m ++ k)
  have HCL := Lib.hid hcl
  have HL := Lib.hid hl
  have HM := Lib.hid hm
  clear hcl hl hm
  go_enter Tryz.func78, Tryz.ntmps78
  go_wp2_with (first
    | (go_at_call 79
       refine (putNum_any none 0 0 [] (m : Int) _ (Rd.nil _ _) (by omega)).mono ?_
       rintro e w1 ⟨A1, c1, rfl, ho1, hb1⟩
       rw [HCL.out, Nat.zero_add, List.nil_append] at ho1
       rw [HCL.out, Nat.zero_add]
       have g1 := g.mod0 (Mod.of_below hb1)
       have h1 := h.mod0 (Mod.of_below hb1))
    | (go_at_call 124
       refine (laid_any A1 B (numB m).length c1 m d (numB m) k _ (Rd.of_own ho1) g1 (by omega)).mono ?_
       rintro e w2 ⟨A2, c2, rfl, ho2, hb2⟩
       have g2 := g1.mod0 (Mod.of_below hb2)
       have h2 := h1.mod0 (Mod.of_below hb2)
       have r2 := (Rd.of_own ho1).mod0 (Mod.of_below hb2))
    | (go_at_call 123
       refine (crc_any A2 _ c2 (numB m ++ k) _ (Rd.of_own ho2) (by omega)).mono ?_
       rintro e w' ⟨rfl, rfl⟩)
    | (go_at_call 125
       refine (high4_any _ _ (by omega) (by omega)).mono ?_
       rintro e w3 ⟨A3, c3, rfl, ho3, hb3⟩
       have g3 := g2.mod0 (Mod.of_below hb3)
       have h3 := h2.mod0 (Mod.of_below hb3)
       have r3 := r2.mod0 (Mod.of_below hb3))
    | (go_at_call 55
       have hfl : flat [⟨A, n, c, l⟩, ⟨A1, (numB m).length, c1, numB m⟩, ⟨A3, 4, c3, high4 (crcOf (numB m ++ k))⟩, ⟨B, m, d, k⟩] = l ++ frameB k := by
         rw [flat4]; unfold frameB; rw [HM.out]
       have hln : (l ++ frameB k).length = n + ((numB m).length + (4 + m)) := by
         unfold frameB; rw [HM.out]; simp only [List.length_append]; rw [HL.out, HM.out]; rfl
       have hok : ∀ b ∈ [(⟨A, n, c, l⟩ : Bs), ⟨A1, (numB m).length, c1, numB m⟩, ⟨A3, 4, c3, high4 (crcOf (numB m ++ k))⟩, ⟨B, m, d, k⟩], Rd (w3.alloc (.cells #[Value.slice A n c, Value.slice A1 (numB m).length c1, Value.slice A3 4 c3, Value.slice B m d] 44)) b.A b.n (by8 b.l) := by
         intro b hb
         simp only [List.mem_cons, List.not_mem_nil, or_false] at hb
         rcases hb with rfl | rfl | rfl | rfl
         · exact h3.alloc _
         · exact r3.alloc _
         · exact (Rd.of_own ho3).alloc _
         · exact g3.alloc _
       have hcon := concat_any _ 4 4 [⟨A, n, c, l⟩, ⟨A1, (numB m).length, c1, numB m⟩, ⟨A3, 4, c3, high4 (crcOf (numB m ++ k))⟩, ⟨B, m, d, k⟩] _ (rd_four w3 44 ⟨A, n, c, l⟩ ⟨A1, (numB m).length, c1, numB m⟩ ⟨A3, 4, c3, high4 (crcOf (numB m ++ k))⟩ ⟨B, m, d, k⟩) hok (by rw [hfl, hln]; omega) (by omega)
       rw [hfl] at hcon
       obtain ⟨N, hN⟩ : ∃ N, (l ++ frameB k).length = N := ⟨_, rfl⟩
       rw [hN] at hcon
       have HN := Lib.hid hN
       refine hcon.mono ?_
       clear hcon hok hfl hln hN
       rintro e w4 ⟨A4, c4, rfl, ho4, hb4⟩))
  go_ret
  have b1 : Below w.heap.size w w3 := hb1.trans ((hb2.trans (hb3.mono hb2.size)).mono hb1.size)
  have b2 := b1.alloc b1.size (.cells #[Value.slice A n c, Value.slice A1 (numB m).length c1, Value.slice A3 4 c3, Value.slice B m d] 44)
  exact ⟨A4, _, c4, rfl, HN.out.symm, own_mono ho4 b2.size, b2.trans (hb4.mono b2.size)⟩

end Go.Proofs.YtdpjnpjmokncdaaGreatDoor
