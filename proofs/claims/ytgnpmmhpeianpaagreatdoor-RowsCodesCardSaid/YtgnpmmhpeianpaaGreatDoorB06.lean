/- code.high at 4 and at 8. -/
import Derived.Test.YtgnpmmhpeianpaaGreatDoorB03
import Derived.Lib.AppendZeros
import Derived.Test.YtgnpmmhpeianpaaGreatDoorChecked
namespace Go.Proofs.YtgnpmmhpeianpaaGreatDoor
open Go.RowKit

set_option maxHeartbeats 400000 in
theorem high4_raw (x : Int) (w : World) (_hx : 0 ≤ x) (_hx2 : x < 18446744073709551616) :
    Calls Tryz.prog 159 #[.int .u64 x, .int .i64 4] w fun e w' => e = .returned (.slice (some ⟨w.heap.size, 0, none⟩) 4 4) ∧
      w.alloc (.cells #[.int .u8 (x / 256 / 256 / 256 % 256), .int .u8 (x / 256 / 256 % 256), .int .u8 (x / 256 % 256), .int .u8 (x % 256)] 5) = w' := by
  have hmk : ∀ w, (Instr.makeSlice 27 (.int .i64 4) (.int .i64 4)).run Tryz.prog w = .ok (.slice (some ⟨w.heap.size, 0, none⟩) 4 4) (w.alloc (.cells #[.int .u8 0, .int .u8 0, .int .u8 0, .int .u8 0] 5)) := fun _ => by kernel_rfl
  go_enter Tryz.func159, Tryz.ntmps159
  go_wp2
  refine wp_loop_rounds 5 ?_
  rw [rounds_succ]; go_wp2
  rw [rounds_succ]; go_wp2
  rw [rounds_succ]; go_wp2
  rw [rounds_succ]; go_wp2
  rw [rounds_succ]; go_wp2
  go_ret
  exact ⟨rfl, rfl⟩

/-- the lowest byte of a number. -/
def lowB (y : Int) : UInt8 := UInt8.ofNat (y % 256).toNat
theorem b8_lowB (y : Int) : b8 (lowB y) = .int .u8 (y % 256) := by
  unfold b8 lowB
  have h1 := Int.emod_nonneg y (show (256 : Int) ≠ 0 by omega)
  have h2 := Int.emod_lt_of_pos y (show (0 : Int) < 256 by omega)
  have : (UInt8.ofNat (y % 256).toNat).toNat = (y % 256).toNat := by simp [UInt8.toNat_ofNat']; omega
  rw [this]
  congr 1
  omega
def high4 (x : Int) : List UInt8 := [lowB (x / 256 / 256 / 256), lowB (x / 256 / 256), lowB (x / 256), lowB x]

theorem high4_any (x : Int) (w : World) (hx : 0 ≤ x) (hx2 : x < 18446744073709551616) :
    Calls Tryz.prog 159 #[.int .u64 x, .int .i64 4] w fun e w' => ∃ A' c', e = .returned (.slice A' 4 c') ∧ w'.ownsRow w.heap.size 5 1 (.slice A' 4 c') 4 (by8 (high4 x)) ∧ Below w.heap.size w w' := by
  refine (high4_raw x w hx hx2).mono ?_
  rintro e w' ⟨rfl, rfl⟩
  refine ⟨_, _, rfl, ?_, (Below.refl _ w).alloc (Nat.le_refl _) _⟩
  have := World.ownsRow_lit (e := 5) (base := w.heap.size) (size := 1) w #[.int .u8 (x / 256 / 256 / 256 % 256), .int .u8 (x / 256 / 256 % 256), .int .u8 (x / 256 % 256), .int .u8 (x % 256)] 4 (Nat.le_refl _) (by simp [maxLen]) rfl
  simpa [by8, high4, b8_lowB] using this

theorem grow_run (n : Nat) (w : World) (h0 : 0 < n) (hn : n ≤ 140737488355328) (ty : TypeId) : ∃ cur : Array Value, cur.size = grownCap w n 0 5 * 1 ∧
    (Builtin.append_ #[27, 3] ty #[.slice none 0 0, .int .i64 n]).run Tryz.prog w = .ok (.slice (some ⟨w.heap.size, 0, none⟩) n (grownCap w n 0 5)) (w.drew.alloc (.cells cur 5)) := by
  obtain ⟨i, hi, hz, hs1, hb⟩ := bt.info
  refine ⟨_, ?_, Lib.run_append_nil_zeros (P := Tryz.prog) w 27 3 ty 5 i (.int .u8 0) .i64 .i64 bt.sl Tryz.underlying3 hi hz n h0 (by omega) (by omega) (by rw [hb]; omega)⟩
  have := grownCap_ge w n 0 5
  simp [Builtin.zeroCells, Value.cells]; omega

set_option maxRecDepth 100000 in
set_option maxHeartbeats 400000 in
/-- 'slices.Grow(nil, n)'. -/
theorem grow_any (n : Nat) (w : World) (hn : n ≤ 140737488355328) :
    Calls Tryz.prog 216 #[.slice none 0 0, .int .i64 n] w fun e w' => ∃ A' c', e = .returned (.slice A' 0 c') ∧ w'.ownsRow w.heap.size 5 1 (.slice A' 0 c') 0 (by8 []) ∧ Below w.heap.size w w' := by
  rcases Nat.eq_zero_or_pos n with rfl | h0
  · go_enter Tryz.func216, Tryz.ntmps216
    go_wp2
    go_ret
    exact ⟨none, 0, rfl, World.ownsRow_nil _ _ _ _, Below.refl _ _⟩
  · obtain ⟨cur, hsz, hrun⟩ := grow_run n w h0 hn 27
    have hH := Lib.hid hrun
    have hS := Lib.hid hsz
    clear hrun hsz
    have hge := grownCap_ge w n 0 5
    have hle := grownCap_le_maxLen w n 0 5 (by simp only [maxLen]; omega)
    unfold maxLen at hle
    generalize grownCap w n 0 5 = cc at *
    go_enter Tryz.func216, Tryz.ntmps216
    go_wp2_with (at_builtin; refine Lib.wpList_append_run _ rfl (.tmp 20) (.tmp 21) 27 3 rfl (.slice none 0 0) (.int .i64 n) rfl rfl _ _ hH.out ?_)
    go_ret
    refine ⟨_, _, rfl, ?_, ((Below.refl _ w).drew).alloc (Nat.le_refl _) _⟩
    exact World.ownsRow_made _ _ _ (Nat.le_refl _) (by simp only [maxLen]; omega) hS.out

end Go.Proofs.YtgnpmmhpeianpaaGreatDoor

/- slices.Concat at bytes; code.PutNum. -/
namespace Go.Proofs.YtgnpmmhpeianpaaGreatDoor
open Go.RowKit

/-- a slice of bytes as it lies. -/
structure Bs where
  A : Option Addr
  n : Nat
  c : Nat
  l : List UInt8
def Bs.val (b : Bs) : Value := .slice b.A b.n b.c
def flat : List Bs → List UInt8
  | [] => []
  | b :: r => b.l ++ flat r
theorem flat_append (p q : List Bs) : flat (p ++ q) = flat p ++ flat q := by
  induction p with
  | nil => rfl
  | cons b p ih => simp [flat, ih]
theorem take_snoc' {α : Type} (l : List α) (k : Nat) (c : α) (h : l[k]? = some c) : l.take (k + 1) = l.take k ++ [c] := by
  obtain ⟨hk, e⟩ := List.getElem?_eq_some_iff.1 h
  rw [List.take_succ_eq_append_getElem hk, e]
theorem flat_take_le (p : List Bs) (k : Nat) : (flat (p.take k)).length ≤ (flat p).length := by
  conv => rhs; rw [← List.take_append_drop k p, flat_append]
  simp

set_option maxRecDepth 100000 in
set_option maxHeartbeats 1000000 in
theorem concat_any (A : Option Addr) (n c : Nat) (p : List Bs) (w : World) (h : Rd w A n (p.map Bs.val)) (hp : ∀ b ∈ p, Rd w b.A b.n (by8 b.l)) (ht : (flat p).length ≤ 140737488355328) (hn : n ≤ 140737488355328) :
    Calls Tryz.prog 155 #[.slice A n c] w fun e w' => ∃ A' c', e = .returned (.slice A' (flat p).length c') ∧ w'.ownsRow w.heap.size 5 1 (.slice A' (flat p).length c') (flat p).length (by8 (flat p)) ∧ Below w.heap.size w w' := by
  have hl : p.length = n := by simpa using h.1
  have hround : ∀ k, k < n → ∃ b o q, A = some ⟨b, o, none⟩ ∧ p[k]? = some q ∧ w.cell? ⟨b, o + k, none⟩ = some q.val ∧ Rd w q.A q.n (by8 q.l) ∧ q.l.length = q.n ∧ flat (p.take (k + 1)) = flat (p.take k) ++ q.l := by
    intro k hk
    obtain ⟨b, o, rfl, u, hu, hc⟩ := h.at_ hk
    rw [List.getElem?_map] at hu
    cases hx : p[k]? with
    | none => rw [hx] at hu; cases hu
    | some q =>
      rw [hx] at hu
      simp only [Option.map_some, Option.some.injEq] at hu
      subst hu
      have hr := hp q (List.mem_of_getElem? hx)
      exact ⟨b, o, q, rfl, rfl, hc, hr, by simpa using hr.1, by rw [take_snoc' p k q hx, flat_append]; simp [flat]⟩
  have hle := fun k => Nat.le_trans (flat_take_le p k) ht
  go_enter Tryz.func155, Tryz.ntmps155
  go_wp2
  go_loop [3, 5, 11] (fun x s i => ∃ k : Nat, k ≤ n ∧ i = .int .i64 k ∧ x = .int .i64 ((flat (p.take k)).length : Nat)) (fun _ _ i => n - (intOf i).toNat)
  case atStart => exact ⟨0, Nat.zero_le _, rfl, rfl⟩
  case round =>
    obtain ⟨k, hk, rfl, rfl⟩ := hrel
    by_cases hlt : k < n
    · obtain ⟨b, o, q, rfl, hq, hc, hr, hlq, hf⟩ := hround k hlt
      have h1 := hle k
      have h2 := hle (k + 1)
      have hL : (flat (p.take (k + 1))).length = (flat (p.take k)).length + q.n := by rw [hf, List.length_append, hlq]
      clear hround hle hf hq hlq hr
      have HL := Lib.hid hL
      rw [hL] at h2
      clear hL
      generalize (flat (p.take k)).length = z at *
      cases q with | mk qA qn qc ql =>
      simp only [Bs.val] at hc h2 HL
      go_wp2
      go_round
      case rel => exact ⟨k + 1, by omega, by go_num, by rw [HL.out]; go_num⟩
      case measure => simp [intOf]; omega
    · obtain rfl : k = n := by omega
      have e0 : p.take k = p := List.take_of_length_le (by omega)
      rw [e0]
      clear e0
      go_wp2_with (go_at_call 216; refine (grow_any _ _ ht).mono ?_; rintro e w1 ⟨A1, c1, rfl, ho1, hb1⟩)
      go_loopw [6, 8, 27] (fun v s i wr => ∃ (j : Nat) (A' : Option Addr) (c' : Nat), j ≤ k ∧ i = .int .i64 j ∧ v = .slice A' (flat (p.take j)).length c' ∧ wr.ownsRow w.heap.size 5 1 (.slice A' (flat (p.take j)).length c') (flat (p.take j)).length (by8 (flat (p.take j))) ∧ Below w.heap.size w wr) (fun _ _ i _ => k - (intOf i).toNat)
      case atStart => exact ⟨0, A1, c1, Nat.zero_le _, rfl, rfl, ho1, hb1⟩
      case round =>
        obtain ⟨j, A', c', hj, rfl, rfl, ho, hb⟩ := hrel
        by_cases hjl : j < k
        · obtain ⟨b, o, q, rfl, hq, hc, hr, hlq, hf⟩ := hround j hjl
          have h2 := hle (j + 1)
          have hL : (flat (p.take (j + 1))).length = (flat (p.take j)).length + q.n := by rw [hf, List.length_append, hlq]
          have hc' : wr.cell? ⟨b, o + j, none⟩ = some q.val := (Mod.of_below (S := Non) hb).cell hc (fun h => h)
          have hr' := hr.mod0 (Mod.of_below hb)
          clear hround hle hc hr
          have HF := Lib.hid hf
          have HL := Lib.hid hL
          rw [hL] at h2
          have HB := Lib.hid hb
          have hsz := hb.size
          clear hf hL hlq hq
          generalize hz : (flat (p.take j)).length = z at *
          clear hz
          cases q with | mk qA qn qc ql =>
          simp only [Bs.val] at hc' h2 HL hr'
          simp only at HF
          go_wp2_with (at_builtin; refine wpList_app8 bt _ rfl (.tmp 31) (.tmp 32) rfl w.heap.size (.slice A' z c') z (flat (p.take j)) rfl ho _ qn qc ql rfl hr' (z + qn) rfl (flat (p.take (j + 1))) HF.out.symm h2 hsz ?_; intro A2 c2 w2 hc2 ho2 hg2 hat2)
          go_roundw
          case rel => exact ⟨j + 1, A2, c2, by omega, by go_num, by rw [HL.out], by rw [HL.out]; exact ho2, HB.out.grown hg2 hsz (fun i hi => (ho.lt i hi).1)⟩
          case measure => simp [intOf]; omega
        · obtain rfl : j = k := by omega
          have e0 : p.take j = p := List.take_of_length_le (by omega)
          rw [e0] at ho
          rw [e0]
          clear e0
          go_wp2
          go_ret
          exact ⟨A', c', rfl, ho, hb⟩

end Go.Proofs.YtgnpmmhpeianpaaGreatDoor

/- code.PutNum. -/
namespace Go.Proofs.YtgnpmmhpeianpaaGreatDoor
open Go.RowKit

/-- a byte with the sign that more come. -/
def moreB (r : Nat) : UInt8 := UInt8.ofNat (bits BinOp.or IntKind.u8 ((r : Int) % 256) 128).toNat
theorem b8_moreB (r : Nat) : b8 (moreB r) = .int .u8 (bits BinOp.or IntKind.u8 ((r : Int) % 256) 128) := by
  have h := bits_u8 .or ((r : Int) % 256) 128
  unfold b8 moreB
  have : (UInt8.ofNat (bits BinOp.or IntKind.u8 ((r : Int) % 256) 128).toNat).toNat = (bits BinOp.or IntKind.u8 ((r : Int) % 256) 128).toNat := by
    rw [UInt8.toNat_ofNat', Nat.mod_eq_of_lt (by omega)]
  rw [this]
  exact congrArg (Value.int .u8) (by omega)
def numB (n : Nat) : List UInt8 := if n < 128 then [lowB n] else moreB n :: numB (n / 128)
termination_by n
decreasing_by omega
theorem numB_more {n : Nat} (h : 128 ≤ n) : numB n = moreB n :: numB (n / 128) := by rw [numB, if_neg (by omega)]
theorem numB_last {n : Nat} (h : n < 128) : numB n = [lowB n] := by rw [numB, if_pos h]
theorem numB_len (k : Nat) : ∀ n : Nat, n < 128 ^ (k + 1) → (numB n).length ≤ k + 1 := by
  induction k with
  | zero => intro n hn; rw [numB_last (by simpa using hn)]; simp
  | succ k ih =>
    intro n hn
    by_cases h : n < 128
    · rw [numB_last h]; simp
    · rw [numB_more (by omega)]
      have := ih (n / 128) (by rw [Nat.div_lt_iff_lt_mul (by omega)]; rw [Nat.pow_succ] at hn; omega)
      simp; omega
theorem numB_len9 {n : Nat} (h : n ≤ 4611686018427387903) : (numB n).length ≤ 9 := numB_len 8 n (by omega)
theorem numB_pos (n : Nat) : 0 < (numB n).length := by
  by_cases h : n < 128
  · rw [numB_last h]; simp
  · rw [numB_more (by omega)]; simp

/-- the number that is laid. -/
def clampN (x : Int) : Nat := (min (max x 0) 4611686018427387903).toNat
theorem clampN_le (x : Int) : clampN x ≤ 4611686018427387903 := by unfold clampN; omega
theorem clampN_of {n : Nat} (h : n ≤ 4611686018427387903) : clampN n = n := by unfold clampN; omega

set_option maxRecDepth 100000 in
set_option maxHeartbeats 1000000 in
theorem putNum_any (A : Option Addr) (n c : Nat) (l : List UInt8) (x : Int) (w : World) (h : Rd w A n (by8 l)) (hn : n ≤ 140737488351232) :
    Calls Tryz.prog 55 #[.slice A n c, .int .i64 x] w fun e w' => ∃ A' c', e = .returned (.slice A' (n + (numB (clampN x)).length) c') ∧
      w'.ownsRow w.heap.size 5 1 (.slice A' (n + (numB (clampN x)).length) c') (n + (numB (clampN x)).length) (by8 (l ++ numB (clampN x))) ∧ Below w.heap.size w w' := by
  have hN := clampN_le x
  have h9 := numB_len9 hN
  generalize hc : clampN x = N at *
  unfold clampN at hc
  have h3 : x < 0 ∧ N = 0 ∨ 0 ≤ x ∧ x ≤ 4611686018427387903 ∧ x = N ∨ 4611686018427387903 < x ∧ N = 4611686018427387903 := by omega
  clear hc
  obtain ⟨L, hL⟩ : ∃ L, numB N = L := ⟨_, rfl⟩
  rw [hL] at h9 ⊢
  rcases h3 with ⟨hx, rfl⟩ | ⟨hx, hx2, rfl⟩ | ⟨hx, rfl⟩
  all_goals
    have HL : Hid ([] ++ numB _ = L) := hL
    clear hL
    go_enter Tryz.func55, Tryz.ntmps55
    go_wp2_with fail
    go_loopw [1, 5] (fun x v wr => ∃ (r : Nat) (d : List UInt8) (A' : Option Addr) (c' : Nat), x = .int .i64 r ∧ v = .slice A' d.length c' ∧ wr.ownsRow w.heap.size 5 1 (.slice A' d.length c') d.length (by8 d) ∧ Below w.heap.size w wr ∧ Hid (d ++ numB r = L) ∧ r ≤ 4611686018427387903 ∧ d.length ≤ 9) (fun x _ _ => (intOf x).toNat)
    case atStart => exact ⟨_, [], none, 0, rfl, rfl, World.ownsRow_nil _ _ _ _, Below.refl _ _, HL, by omega, by simp⟩
    case round =>
      obtain ⟨r, d, A', c', rfl, rfl, ho, hb, HD, hr, hd⟩ := hrel
      have HB := Lib.hid hb
      have hsz := hb.size
      clear hb
      by_cases hlt : 128 ≤ r
      · have hL : L.length = d.length + (numB r).length := by rw [← HD.out]; simp
        have hp := numB_pos (r / 128)
        have H2 : Hid (d ++ [moreB r] ++ numB (r / 128) = L) := by
          have := HD.out
          rw [numB_more hlt] at this
          show d ++ [moreB r] ++ numB (r / 128) = L
          simpa using this
        have hL2 : d.length + 1 + (numB (r / 128)).length = L.length := by rw [← H2.out]; simp; omega
        have hone := one_byte wr 5 (moreB r)
        rw [b8_moreB] at hone
        have HO := Lib.hid hone
        have hd2 : d.length + 1 ≤ 9 := by omega
        clear hL hL2 hone HD
        go_wp2_with (at_builtin; refine wpList_app8 bt _ rfl (.tmp 13) (.tmp 17) rfl w.heap.size (.slice A' d.length c') d.length d rfl (ho.alloc _) _ 1 1 [moreB r] rfl HO.out (d.length + 1) rfl (d ++ [moreB r]) rfl (by omega) (by simp; omega) ?_; intro A2 c2 w2 hc2 ho2 hg2 hat2)
        go_roundw
        case rel =>
          refine ⟨r / 128, d ++ [moreB r], A2, c2, ?_, by simp, by simpa using ho2, (HB.out.alloc hsz _).grown hg2 (by simp; omega) (fun i hi => (ho.lt i hi).1), H2, by omega, by simpa using hd2⟩
          congr 1
        case measure => simp [intOf]; omega
      · have hlt : r < 128 := by omega
        have hq : (r : Int) % 256 = r := by omega
        have hL : d ++ [lowB r] = L := by have := HD.out; rwa [numB_last hlt] at this
        have hone := one_byte wr 5 (lowB r)
        rw [b8_lowB, hq] at hone
        have HO := Lib.hid hone
        have HL2 := Lib.hid hL
        have hll : d.length + 1 = L.length := by rw [← hL]; simp
        clear hL hone HD hq
        have h' := (h.mod0 (Mod.of_below HB.out)).alloc (.cells #[.int .u8 r] 5)
        go_wp2_with (first
          | (at_builtin; refine wpList_app8 bt _ rfl (.tmp 20) (.tmp 23) rfl w.heap.size (.slice A' d.length c') d.length d rfl (ho.alloc _) _ 1 1 [lowB r] rfl HO.out L.length hll L HL2.out (by omega) (by simp; omega) ?_; intro A2 c2 w2 hc2 ho2 hg2 hat2)
          | (go_at_call 94
             go_loud (have hbw : Below w.heap.size w w2 := (HB.out.alloc hsz _).grown hg2 (by simp; omega) (fun i hi => (ho.lt i hi).1))
             go_loud (refine (laid_any A A2 n c L.length c2 l L _ (h.mod0 (Mod.of_below hbw)) (Rd.of_own ho2) (by omega)).mono ?_)
             rintro e w3 ⟨A3, c3, rfl, ho3, hb3⟩))
        go_ret
        exact ⟨A3, c3, rfl, own_mono ho3 hbw.size, hbw.trans (hb3.mono hbw.size)⟩

end Go.Proofs.YtgnpmmhpeianpaaGreatDoor

/- Numbers as bytes, one behind the other; texts. Plain. -/
namespace Go.Proofs.YtgnpmmhpeianpaaGreatDoor
open Go.RowKit

def inN (x : Int) : Bool := decide (0 ≤ x ∧ x ≤ 1099511627776)
theorem inN_iff {x : Int} : inN x = true ↔ 0 ≤ x ∧ x ≤ 1099511627776 := by unfold inN; simp
/-- numbers as bytes. -/
def nB (x : Int) : List UInt8 := numB (clampN x)
theorem nB_len (x : Int) : (nB x).length ≤ 9 := numB_len9 (clampN_le x)
def textB (s : List UInt8) : List UInt8 := nB s.length ++ s
def nBs : List Int → List UInt8
  | [] => []
  | x :: r => nB x ++ nBs r
theorem nBs_snoc (l : List Int) (x : Int) : nBs (l ++ [x]) = nBs l ++ nB x := by
  induction l with
  | nil => simp [nBs]
  | cons a r ih => rw [List.cons_append, nBs, nBs, ih, List.append_assoc]
theorem nBs_len : ∀ l : List Int, (nBs l).length ≤ 9 * l.length
  | [] => by simp [nBs]
  | x :: r => by have := nBs_len r; have := nB_len x; rw [nBs, List.length_append, List.length_cons]; omega

end Go.Proofs.YtgnpmmhpeianpaaGreatDoor

/- frames, plain; slices laid in a new block. -/
namespace Go.Proofs.YtgnpmmhpeianpaaGreatDoor
open Go.RowKit

/-- a frame's bytes. -/
def frameB (l : List UInt8) : List UInt8 := numB l.length ++ (high4 (crcOf (numB l.length ++ l)) ++ l)

theorem flat4 (a b c d : Bs) : flat [a, b, c, d] = a.l ++ (b.l ++ (c.l ++ d.l)) := by simp [flat]

/-- four slices laid in a new block. -/
theorem rd_four (w : World) (t : TypeId) (a b c d : Bs) : Rd (w.alloc (.cells #[a.val, b.val, c.val, d.val] t)) (some ⟨w.heap.size, 0, none⟩) 4 ([a, b, c, d].map Bs.val) := by
  refine ⟨rfl, fun _ => ⟨w.heap.size, 0, rfl, fun j u hu => ?_⟩⟩
  rw [Nat.zero_add, World.cell?_alloc_new]
  match j, hu with
  | 0, hu => simpa using hu
  | 1, hu => simpa using hu
  | 2, hu => simpa using hu
  | 3, hu => simpa using hu
theorem rd_two (w : World) (t : TypeId) (a b : Bs) : Rd (w.alloc (.cells #[a.val, b.val] t)) (some ⟨w.heap.size, 0, none⟩) 2 ([a, b].map Bs.val) := by
  refine ⟨rfl, fun _ => ⟨w.heap.size, 0, rfl, fun j u hu => ?_⟩⟩
  rw [Nat.zero_add, World.cell?_alloc_new]
  match j, hu with
  | 0, hu => simpa using hu
  | 1, hu => simpa using hu

end Go.Proofs.YtgnpmmhpeianpaaGreatDoor

/- SHA-256 and its code under a key, over lists of bytes: plain. -/
namespace Go.Proofs.YtgnpmmhpeianpaaGreatDoor
open Go.RowKit

abbrev B32 := BitVec 32
def v32 (x : B32) : Value := .int .u32 (x.toNat : Int)
theorem b32_of (x : B32) : BitVec.ofInt 32 (x.toNat : Int) = x := by
  rw [BitVec.ofInt_natCast, BitVec.ofNat_toNat, BitVec.setWidth_eq]
theorem b32_wrap (x : B32) : IntKind.u32.wrap (x.toNat : Int) = (x.toNat : Int) := by
  rw [IntKind.wrap_u32]
  have := x.isLt
  omega
theorem b32_xor (a b : B32) : bits .xor .u32 (a.toNat : Int) (b.toNat : Int) = ((a ^^^ b).toNat : Int) := by
  show IntKind.u32.wrap ((BitVec.ofInt 32 (a.toNat : Int) ^^^ BitVec.ofInt 32 (b.toNat : Int)).toNat : Nat) = _
  rw [b32_of, b32_of, b32_wrap]
theorem b32_and (a b : B32) : bits .and .u32 (a.toNat : Int) (b.toNat : Int) = ((a &&& b).toNat : Int) := by
  show IntKind.u32.wrap ((BitVec.ofInt 32 (a.toNat : Int) &&& BitVec.ofInt 32 (b.toNat : Int)).toNat : Nat) = _
  rw [b32_of, b32_of, b32_wrap]
theorem b32_or (a b : B32) : bits .or .u32 (a.toNat : Int) (b.toNat : Int) = ((a ||| b).toNat : Int) := by
  show IntKind.u32.wrap ((BitVec.ofInt 32 (a.toNat : Int) ||| BitVec.ofInt 32 (b.toNat : Int)).toNat : Nat) = _
  rw [b32_of, b32_of, b32_wrap]
theorem b32_not (a : B32) : bits .xor .u32 (a.toNat : Int) 4294967295 = ((~~~a).toNat : Int) := by
  have h : ((4294967295 : Int)) = (((BitVec.allOnes 32).toNat : Nat) : Int) := by decide
  rw [h, b32_xor, BitVec.xor_allOnes]
theorem b32_not' (a : B32) : bits .xor .u32 4294967295 (a.toNat : Int) = ((~~~a).toNat : Int) := by
  have h : ((4294967295 : Int)) = (((BitVec.allOnes 32).toNat : Nat) : Int) := by decide
  rw [h, b32_xor, BitVec.allOnes_xor]
theorem b32_add (a b : B32) : IntKind.u32.wrap ((a.toNat : Int) + (b.toNat : Int)) = ((a + b).toNat : Int) := by
  rw [IntKind.wrap_u32, BitVec.toNat_add]
  omega
theorem b32_shr (a : B32) (n : Nat) : (a.toNat : Int) / ((2 ^ n : Nat) : Int) = ((a >>> n).toNat : Int) := by
  rw [BitVec.toNat_ushiftRight, Nat.shiftRight_eq_div_pow]
  exact (Int.natCast_ediv _ _).symm
theorem b32_shl (a : B32) (n : Nat) : IntKind.u32.wrap ((a.toNat : Int) * ((2 ^ n : Nat) : Int)) = ((a <<< n).toNat : Int) := by
  rw [BitVec.toNat_shiftLeft, Nat.shiftLeft_eq, IntKind.wrap_u32, ← Int.natCast_mul]
  exact (Int.natCast_emod _ _).symm

/-- a word turned down. -/
def rr (x : B32) (n : Nat) : B32 := (x >>> n) ||| (x <<< (32 - n))
def sg (x : B32) (a b c : Nat) : B32 := rr x a ^^^ rr x b ^^^ rr x c
def sl (x : B32) (a b c : Nat) : B32 := rr x a ^^^ rr x b ^^^ (x >>> c)
def ch (e f g : B32) : B32 := (e &&& f) ^^^ (~~~e &&& g)
def mj (a b c : B32) : B32 := (a &&& b) ^^^ (a &&& c) ^^^ (b &&& c)

/-- eight words. -/
structure St where
  a : B32
  b : B32
  c : B32
  d : B32
  e : B32
  f : B32
  g : B32
  h : B32
def St.list (s : St) : List B32 := [s.a, s.b, s.c, s.d, s.e, s.f, s.g, s.h]
def St.cells (s : St) : Array Value := #[v32 s.a, v32 s.b, v32 s.c, v32 s.d, v32 s.e, v32 s.f, v32 s.g, v32 s.h]
def St.plus (s t : St) : St := ⟨s.a + t.a, s.b + t.b, s.c + t.c, s.d + t.d, s.e + t.e, s.f + t.f, s.g + t.g, s.h + t.h⟩
def stX (s : St) (k w : B32) : B32 := s.h + sg s.e 6 11 25 + ch s.e s.f s.g + k + w
def stY (s : St) : B32 := sg s.a 2 13 22 + mj s.a s.b s.c
def stStep (s : St) (k w : B32) : St := ⟨stX s k w + stY s, s.a, s.b, s.c, s.d + stX s k w, s.e, s.f, s.g⟩

def kTab : List B32 := [
  0x428a2f98, 0x71374491, 0xb5c0fbcf, 0xe9b5dba5, 0x3956c25b, 0x59f111f1, 0x923f82a4, 0xab1c5ed5,
  0xd807aa98, 0x12835b01, 0x243185be, 0x550c7dc3, 0x72be5d74, 0x80deb1fe, 0x9bdc06a7, 0xc19bf174,
  0xe49b69c1, 0xefbe4786, 0x0fc19dc6, 0x240ca1cc, 0x2de92c6f, 0x4a7484aa, 0x5cb0a9dc, 0x76f988da,
  0x983e5152, 0xa831c66d, 0xb00327c8, 0xbf597fc7, 0xc6e00bf3, 0xd5a79147, 0x06ca6351, 0x14292967,
  0x27b70a85, 0x2e1b2138, 0x4d2c6dfc, 0x53380d13, 0x650a7354, 0x766a0abb, 0x81c2c92e, 0x92722c85,
  0xa2bfe8a1, 0xa81a664b, 0xc24b8b70, 0xc76c51a3, 0xd192e819, 0xd6990624, 0xf40e3585, 0x106aa070,
  0x19a4c116, 0x1e376c08, 0x2748774c, 0x34b0bcb5, 0x391c0cb3, 0x4ed8aa4a, 0x5b9cca4f, 0x682e6ff3,
  0x748f82ee, 0x78a5636f, 0x84c87814, 0x8cc70208, 0x90befffa, 0xa4506ceb, 0xbef9a3f7, 0xc67178f2]
theorem kTab_len : kTab.length = 64 := rfl

/-- the word behind so many. -/
def nextW (ws : List B32) : B32 := ws.getD (ws.length - 16) 0 + sl (ws.getD (ws.length - 15) 0) 7 18 3 + ws.getD (ws.length - 7) 0 + sl (ws.getD (ws.length - 2) 0) 17 19 10
def growW : Nat → List B32 → List B32
  | 0, ws => ws
  | n + 1, ws => growW n ws ++ [nextW (growW n ws)]
theorem growW_len (n : Nat) (ws : List B32) : (growW n ws).length = ws.length + n := by
  induction n with
  | zero => rfl
  | succ n ih => simp [growW, ih]; omega
def wordAt (b : List UInt8) (i : Nat) : B32 := BitVec.ofNat 32 ((b.getD (4 * i) 0).toNat * 16777216 + (b.getD (4 * i + 1) 0).toNat * 65536 + (b.getD (4 * i + 2) 0).toNat * 256 + (b.getD (4 * i + 3) 0).toNat)
def words16 (b : List UInt8) (n : Nat) : List B32 := (List.range n).map (wordAt b)
theorem words16_len (b : List UInt8) (n : Nat) : (words16 b n).length = n := by simp [words16]
theorem words16_succ (b : List UInt8) (n : Nat) : words16 b (n + 1) = words16 b n ++ [wordAt b n] := by simp [words16, List.range_succ]
def wordsOf (b : List UInt8) : List B32 := growW 48 (words16 b 16)
theorem wordsOf_len (b : List UInt8) : (wordsOf b).length = 64 := by rw [wordsOf, growW_len, words16_len]
def runSt (ws : List B32) (s : St) : Nat → St
  | 0 => s
  | t + 1 => stStep (runSt ws s t) (kTab.getD t 0) (ws.getD t 0)
def blockSt (s : St) (b : List UInt8) : St := s.plus (runSt (wordsOf b) s 64)
def blocksSt : Nat → St → List UInt8 → St
  | 0, s, _ => s
  | n + 1, s, l => blocksSt n (blockSt s (l.take 64)) (l.drop 64)
def st0 : St := ⟨0x6a09e667, 0xbb67ae85, 0x3c6ef372, 0xa54ff53a, 0x510e527f, 0x9b05688c, 0x1f83d9ab, 0x5be0cd19⟩

/-- how many noughts. -/
def zerosN (n : Nat) : Nat := (120 - (n + 1) % 64) % 64
def lenB (n : Int) : List UInt8 := (List.range 8).map fun i => lowB (n / ((2 ^ (8 * (7 - i)) : Nat) : Int))
theorem lenB_len (n : Int) : (lenB n).length = 8 := by simp [lenB]
def padB (l : List UInt8) : List UInt8 := l ++ ((128 :: List.replicate (zerosN l.length) 0) ++ lenB (8 * l.length))
theorem padB_len (l : List UInt8) : (padB l).length = l.length + 1 + zerosN l.length + 8 := by simp [padB, lenB_len]; omega
theorem padB_64 (l : List UInt8) : 64 * ((padB l).length / 64) = (padB l).length := by
  rw [padB_len]
  unfold zerosN
  omega
def w4 (x : B32) : List UInt8 := [lowB ((x.toNat : Int) / 16777216), lowB ((x.toNat : Int) / 65536), lowB ((x.toNat : Int) / 256), lowB (x.toNat : Int)]
def w4s : List B32 → List UInt8
  | [] => []
  | x :: r => w4 x ++ w4s r
theorem w4s_snoc (l : List B32) (x : B32) : w4s (l ++ [x]) = w4s l ++ w4 x := by
  induction l with
  | nil => simp [w4s]
  | cons y l ih => simp [w4s, ih]
theorem w4s_len (l : List B32) : (w4s l).length = 4 * l.length := by
  induction l with
  | nil => rfl
  | cons y l ih => simp [w4s, w4, ih]; omega
def shaB (l : List UInt8) : List UInt8 := w4s (blocksSt ((padB l).length / 64) st0 (padB l)).list
theorem shaB_len (l : List UInt8) : (shaB l).length = 32 := by rw [shaB, w4s_len]; rfl

/-- a key of 64 bytes. -/
def keyK (k : List UInt8) : List UInt8 := if 64 < k.length then shaB k else k
theorem keyK_len (k : List UInt8) : (keyK k).length ≤ 64 := by
  unfold keyK
  split
  · rw [shaB_len]; omega
  · omega
def key64 (k : List UInt8) : List UInt8 := keyK k ++ List.replicate (64 - (keyK k).length) 0
theorem key64_len (k : List UInt8) : (key64 k).length = 64 := by
  have := keyK_len k
  simp [key64]
  omega
def macB (k b : List UInt8) : List UInt8 := shaB ((key64 k).map (· ^^^ 92) ++ shaB ((key64 k).map (· ^^^ 54) ++ b))
theorem xor8 (c : UInt8) (m : UInt8) : bits .xor .u8 (c.toNat : Int) (m.toNat : Int) = ((c ^^^ m).toNat : Int) := by
  show IntKind.u8.wrap ((BitVec.ofInt 8 (c.toNat : Int) ^^^ BitVec.ofInt 8 (m.toNat : Int)).toNat : Nat) = _
  have h : ∀ d : UInt8, BitVec.ofInt 8 (d.toNat : Int) = d.toBitVec := fun d => by
    rw [BitVec.ofInt_natCast]
    exact BitVec.ofNat_toNat .. |>.trans (BitVec.setWidth_eq _)
  rw [h, h, IntKind.wrap_u8, ← UInt8.toBitVec_xor]
  have := (c ^^^ m).toNat_lt
  show (((c ^^^ m).toNat : Nat) : Int) % 256 = _
  omega

end Go.Proofs.YtgnpmmhpeianpaaGreatDoor

/- math/bits.RotateLeft32; sha.turned. -/
namespace Go.Proofs.YtgnpmmhpeianpaaGreatDoor
open Go.RowKit

theorem and31u (a : Nat) (ha : a < 18446744073709551616) : bits .and .u64 (a : Int) 31 = ((a % 32 : Nat) : Int) := by
  show IntKind.u64.wrap ((BitVec.ofInt 64 (a : Int) &&& BitVec.ofInt 64 ((31 : Nat) : Int)).toNat : Nat) = _
  rw [BitVec.ofInt_natCast, BitVec.ofInt_natCast, BitVec.toNat_and, BitVec.toNat_ofNat, BitVec.toNat_ofNat, Nat.mod_eq_of_lt ha, Nat.mod_eq_of_lt (by omega), show (31 : Nat) = 2 ^ 5 - 1 from rfl, Nat.and_two_pow_sub_one_eq_mod]
  unfold IntKind.wrap
  simp [IntKind.signed, IntKind.bits]
  omega
theorem turnBits (n : Nat) (h1 : 1 ≤ n) (h2 : n ≤ 31) : bits .and .u64 (IntKind.u64.wrap (-(n : Int))) 31 = ((32 - n : Nat) : Int) := by
  have hw : IntKind.u64.wrap (-(n : Int)) = ((18446744073709551616 - n : Nat) : Int) := by
    unfold IntKind.wrap
    simp [IntKind.signed, IntKind.bits]
    omega
  rw [hw, and31u _ (by omega)]
  omega
theorem rr_walk (x : B32) (m n : Nat) (h : m + n = 32) : bits .or .u32 ((x.toNat : Int) * 2 ^ m % 4294967296) ((x.toNat : Int) / 2 ^ (32 - m)) = ((rr x n).toNat : Int) := by
  rw [show 32 - m = n by omega]
  have e1 := b32_shl x m
  have e2 := b32_shr x n
  rw [Int.natCast_pow] at e1 e2
  rw [IntKind.wrap_u32] at e1
  rw [show ((2 : Nat) : Int) = 2 from rfl] at e1 e2
  rw [e1, e2, b32_or]
  unfold rr
  rw [show 32 - n = m by omega, BitVec.or_comm]

set_option maxRecDepth 100000 in
set_option maxHeartbeats 400000 in
theorem rotl_any (x : B32) (n : Nat) (w : World) (h1 : 1 ≤ n) (h2 : n ≤ 31) : Calls Tryz.prog 218 #[v32 x, .int .i64 (-(n : Int))] w fun e w' => e = .returned (v32 (rr x n)) ∧ w = w' := by
  obtain ⟨m, hm⟩ : ∃ m, m + n = 32 := ⟨32 - n, by omega⟩
  have e1 := turnBits n h1 h2
  rw [show 32 - n = m by omega] at e1
  have HRR := Lib.hid (rr_walk x m n hm)
  unfold v32
  go_enter Tryz.func218, Tryz.ntmps218
  go_wp2_with fail
  go_ret
  refine ⟨?_, rfl⟩
  show Ending.returned (.int .u32 (bits .or .u32 ((x.toNat : Int) * 2 ^ m % 4294967296) ((x.toNat : Int) / 2 ^ (32 - m)))) = _
  rw [HRR.out]

set_option maxRecDepth 100000 in
set_option maxHeartbeats 400000 in
theorem turnedS_any (x : B32) (a b c : Nat) (w : World) (ha : 1 ≤ a ∧ a ≤ 31) (hb : 1 ≤ b ∧ b ≤ 31) (hc : 1 ≤ c ∧ c ≤ 31) : Calls Tryz.prog 163 #[v32 x, .int .i64 (a : Int), .int .i64 (b : Int), .int .i64 (c : Int)] w fun e w' => e = .returned (v32 (sg x a b c)) ∧ w = w' := by
  have HA := Lib.hid (rotl_any x a w ha.1 ha.2)
  have HB := Lib.hid (rotl_any x b w hb.1 hb.2)
  have HC := Lib.hid (rotl_any x c w hc.1 hc.2)
  unfold v32 at HA HB HC ⊢
  go_enter Tryz.func163, Tryz.ntmps163
  go_wp2_with (first
    | (go_at_call 218; with_reducible refine HA.out.mono ?_; rintro e w1 ⟨rfl, rfl⟩)
    | (go_at_call 218; with_reducible refine HB.out.mono ?_; rintro e w1 ⟨rfl, rfl⟩)
    | (go_at_call 218; with_reducible refine HC.out.mono ?_; rintro e w1 ⟨rfl, rfl⟩)
    | fail)
  go_ret
  exact ⟨by rw [b32_xor, b32_xor]; rfl, rfl⟩

end Go.Proofs.YtgnpmmhpeianpaaGreatDoor

/- code.high at 8, code.PutFix; errors.Is at nil; key.right, key.Make where they answer OK. -/
namespace Go.Proofs.YtgnpmmhpeianpaaGreatDoor
open Go.RowKit

/-- a number's eight bytes, the highest first. -/
def fixB (x : Int) : List UInt8 := [lowB (x / 256 / 256 / 256 / 256 / 256 / 256 / 256), lowB (x / 256 / 256 / 256 / 256 / 256 / 256), lowB (x / 256 / 256 / 256 / 256 / 256), lowB (x / 256 / 256 / 256 / 256), lowB (x / 256 / 256 / 256), lowB (x / 256 / 256), lowB (x / 256), lowB x]
theorem fixB_len (x : Int) : (fixB x).length = 8 := rfl

set_option maxRecDepth 100000 in
set_option maxHeartbeats 1000000 in
theorem high8_raw (x : Int) (w : World) (_hx : 0 ≤ x) (_hx2 : x < 18446744073709551616) :
    Calls Tryz.prog 159 #[.int .u64 x, .int .i64 8] w fun e w' => e = .returned (.slice (some ⟨w.heap.size, 0, none⟩) 8 8) ∧
      w.alloc (.cells #[.int .u8 (x / 256 / 256 / 256 / 256 / 256 / 256 / 256), .int .u8 (x / 256 / 256 / 256 / 256 / 256 / 256 % 256), .int .u8 (x / 256 / 256 / 256 / 256 / 256 % 256), .int .u8 (x / 256 / 256 / 256 / 256 % 256), .int .u8 (x / 256 / 256 / 256 % 256), .int .u8 (x / 256 / 256 % 256), .int .u8 (x / 256 % 256), .int .u8 (x % 256)] 5) = w' := by
  have hmk : ∀ w, (Instr.makeSlice 27 (.int .i64 8) (.int .i64 8)).run Tryz.prog w = .ok (.slice (some ⟨w.heap.size, 0, none⟩) 8 8) (w.alloc (.cells #[.int .u8 0, .int .u8 0, .int .u8 0, .int .u8 0, .int .u8 0, .int .u8 0, .int .u8 0, .int .u8 0] 5)) := fun _ => by kernel_rfl
  go_enter Tryz.func159, Tryz.ntmps159
  go_wp2
  refine wp_loop_rounds 9 ?_
  rw [rounds_succ]; go_wp2
  rw [rounds_succ]; go_wp2
  rw [rounds_succ]; go_wp2
  rw [rounds_succ]; go_wp2
  rw [rounds_succ]; go_wp2
  rw [rounds_succ]; go_wp2
  rw [rounds_succ]; go_wp2
  rw [rounds_succ]; go_wp2
  rw [rounds_succ]; go_wp2
  go_ret
  exact ⟨rfl, rfl⟩

theorem high8_any (x : Int) (w : World) (hx : 0 ≤ x) (hx2 : x < 18446744073709551616) :
    Calls Tryz.prog 159 #[.int .u64 x, .int .i64 8] w fun e w' => ∃ A' c', e = .returned (.slice A' 8 c') ∧ w'.ownsRow w.heap.size 5 1 (.slice A' 8 c') 8 (by8 (fixB x)) ∧ Below w.heap.size w w' := by
  refine (high8_raw x w hx hx2).mono ?_
  rintro e w' ⟨rfl, rfl⟩
  refine ⟨_, _, rfl, ?_, (Below.refl _ w).alloc (Nat.le_refl _) _⟩
  have := World.ownsRow_lit (e := 5) (base := w.heap.size) (size := 1) w #[.int .u8 (x / 256 / 256 / 256 / 256 / 256 / 256 / 256), .int .u8 (x / 256 / 256 / 256 / 256 / 256 / 256 % 256), .int .u8 (x / 256 / 256 / 256 / 256 / 256 % 256), .int .u8 (x / 256 / 256 / 256 / 256 % 256), .int .u8 (x / 256 / 256 / 256 % 256), .int .u8 (x / 256 / 256 % 256), .int .u8 (x / 256 % 256), .int .u8 (x % 256)] 8 (Nat.le_refl _) (by simp [maxLen]) rfl
  have he : x / 256 / 256 / 256 / 256 / 256 / 256 / 256 % 256 = x / 256 / 256 / 256 / 256 / 256 / 256 / 256 := by omega
  simpa [by8, fixB, b8_lowB, he] using this

set_option maxRecDepth 100000 in
set_option maxHeartbeats 400000 in
theorem putFix_any (A : Option Addr) (n c : Nat) (l : List UInt8) (x : Int) (w : World) (h : Rd w A n (by8 l)) (hn : n ≤ 140737488351232) (hx : 0 ≤ x) (hx2 : x ≤ 1099511627776) :
    Calls Tryz.prog 90 #[.slice A n c, .int .i64 x] w fun e w' => ∃ A' c', e = .returned (.slice A' (n + 8) c') ∧ w'.ownsRow w.heap.size 5 1 (.slice A' (n + 8) c') (n + 8) (by8 (l ++ fixB x)) ∧ Below w.heap.size w w' := by
  have HH := Lib.hid h
  clear h
  go_enter Tryz.func90, Tryz.ntmps90
  go_wp2_with fail
  refine (high8_any x _ hx (by omega)).mono ?_
  rintro e w1 ⟨A1, c1, rfl, ho1, hb1⟩
  have HO1 := Lib.hid ho1
  have HB1 := Lib.hid hb1
  clear ho1 hb1
  go_wp2_with fail
  refine (laid_any A A1 n c 8 c1 l (fixB x) _ (HH.out.mod0 (Mod.of_below HB1.out)) (Rd.of_own HO1.out) (by omega)).mono ?_
  rintro e w2 ⟨A2, c2, rfl, ho2, hb2⟩
  have HO2 := Lib.hid ho2
  have HB2 := Lib.hid hb2
  clear ho2 hb2
  go_wp2_with fail
  go_ret
  exact ⟨A2, c2, rfl, own_mono HO2.out HB1.out.size, HB1.out.trans (HB2.out.mono HB1.out.size)⟩

set_option maxRecDepth 100000 in
set_option maxHeartbeats 400000 in
/-- errors.Is(nil, x), x an error's number. -/
theorem isNil_any (k : Int) (w : World) : Calls Tryz.prog 153 #[.nilIface, .iface 29 (.int .i64 k)] w fun e w' => e = .returned (.bool false) ∧ w = w' := by
  have hn := run_eql_iface_nil_left (P := Tryz.prog) w 29 (.int .i64 k) Tryz.underlying219
  go_enter Tryz.func153, Tryz.ntmps153
  go_wp2
  go_ret
  exact ⟨rfl, rfl⟩

set_option maxRecDepth 100000 in
set_option maxHeartbeats 400000 in
theorem keyRight_any (tree table : Int) (n : Nat) (w : World) (h0 : 0 ≤ tree) (h1 : tree ≤ 1099511627776) (h2 : 0 ≤ table) (h3 : table ≤ 255) (h4 : n ≤ 55) :
    Calls Tryz.prog 154 #[.int .i64 tree, .int .i64 table, .int .i64 n] w fun e w' => e = .returned .nilIface ∧ w = w' := by
  have d0 : decide (tree < 0) = false := decide_eq_false (by omega)
  have d1 : decide (1099511627776 < tree) = false := decide_eq_false (by omega)
  have d2 : decide (table < 0) = false := decide_eq_false (by omega)
  have d3 : decide (255 < table) = false := decide_eq_false (by omega)
  have d4 : decide (64 < 9 + (n : Int)) = false := decide_eq_false (by omega)
  go_enter Tryz.func154, Tryz.ntmps154
  go_wp2_with fail
  go_ret
  exact ⟨rfl, rfl⟩

/-- a key: of a tree's table, and what is behind. -/
def keyB (tree table : Int) (rest : List UInt8) : List UInt8 := fixB tree ++ (lowB table :: rest)
theorem keyB_len (tree table : Int) (rest : List UInt8) : (keyB tree table rest).length = 9 + rest.length := by simp [keyB, fixB_len]; omega
theorem flat3' (a b c : Bs) : flat [a, b, c] = a.l ++ (b.l ++ c.l) := by simp [flat]
theorem rd_three (w : World) (t : TypeId) (a b c : Bs) : Rd (w.alloc (.cells #[a.val, b.val, c.val] t)) (some ⟨w.heap.size, 0, none⟩) 3 ([a, b, c].map Bs.val) := by
  refine ⟨rfl, fun _ => ⟨w.heap.size, 0, rfl, fun j u hu => ?_⟩⟩
  rw [Nat.zero_add, World.cell?_alloc_new]
  match j, hu with
  | 0, hu => simpa using hu
  | 1, hu => simpa using hu
  | 2, hu => simpa using hu

set_option maxRecDepth 100000 in
set_option maxHeartbeats 1000000 in
theorem make_any (tree table : Int) (A : Option Addr) (n c : Nat) (l : List UInt8) (w : World) (h : Rd w A n (by8 l)) (h0 : 0 ≤ tree) (h1 : tree ≤ 1099511627776) (h2 : 0 ≤ table) (h3 : table ≤ 255) (h4 : n ≤ 55) :
    Calls Tryz.prog 87 #[.int .i64 tree, .int .i64 table, .slice A n c] w fun e w' => ∃ A' c', e = .returned (.tuple #[.slice A' (9 + n) c', .int .i64 0]) ∧ w'.ownsRow w.heap.size 5 1 (.slice A' (9 + n) c') (9 + n) (by8 (keyB tree table l)) ∧ Below w.heap.size w w' := by
  have hll : l.length = n := by simpa using h.1
  have HH := Lib.hid h
  have HLL := Lib.hid hll
  clear h hll
  go_enter Tryz.func87, Tryz.ntmps87
  go_wp2_with (first
    | (go_at_call 154; refine (keyRight_any tree table n _ h0 h1 h2 h3 h4).mono ?_; rintro e w1 ⟨rfl, rfl⟩)
    | (go_at_call 153; refine (isNil_any 1 _).mono ?_; rintro e w1 ⟨rfl, rfl⟩)
    | (go_at_call 90
       refine (putFix_any none 0 0 [] tree _ (Rd.nil _ _) (by omega) h0 h1).mono ?_
       rintro e w1 ⟨A1, c1, rfl, ho1, hb1⟩
       rw [Nat.zero_add, List.nil_append] at ho1
       rw [Nat.zero_add]
       have HO1 := Lib.hid ho1
       have HB1 := Lib.hid hb1
       clear ho1 hb1)
    | fail)
  have hone := one_byte w1 5 (lowB table)
  rw [b8_lowB, show table % 256 = table by omega] at hone
  have hr1 := (Rd.of_own HO1.out).alloc (.cells #[.int .u8 table] 5)
  have hr2 := (HH.out.mod0 (Mod.of_below HB1.out)).alloc (.cells #[.int .u8 table] 5)
  obtain ⟨w2, hw2⟩ : ∃ w2, w1.alloc (.cells #[.int .u8 table] 5) = w2 := ⟨_, rfl⟩
  rw [hw2] at hone hr1 hr2 ⊢
  have hsz : w1.heap.size + 1 = w2.heap.size := by rw [← hw2]; simp
  rw [hsz]
  have hb2 : Below w.heap.size w w2 := by rw [← hw2]; exact HB1.out.alloc HB1.out.size _
  have hc := concat_any (some ⟨w2.heap.size, 0, none⟩) 3 3 [⟨A1, 8, c1, fixB tree⟩, ⟨some ⟨w1.heap.size, 0, none⟩, 1, 1, [lowB table]⟩, ⟨A, n, c, l⟩] _ (rd_three w2 27 ⟨A1, 8, c1, fixB tree⟩ ⟨some ⟨w1.heap.size, 0, none⟩, 1, 1, [lowB table]⟩ ⟨A, n, c, l⟩) (fun b hb => by
    simp only [List.mem_cons, List.not_mem_nil, or_false] at hb
    rcases hb with rfl | rfl | rfl
    · exact hr1.alloc _
    · exact hone.alloc _
    · exact hr2.alloc _) (by rw [flat3']; simp [fixB_len, HLL.out]; omega) (by omega)
  have hfl : flat [⟨A1, 8, c1, fixB tree⟩, ⟨some ⟨w1.heap.size, 0, none⟩, 1, 1, [lowB table]⟩, ⟨A, n, c, l⟩] = keyB tree table l := by rw [flat3']; rfl
  have hln : (keyB tree table l).length = 9 + n := by rw [keyB_len, HLL.out]
  rw [hfl, hln] at hc
  have hb3 := hb2.alloc hb2.size (.cells #[.slice A1 8 c1, .slice (some ⟨w1.heap.size, 0, none⟩) 1 1, .slice A n c] 27)
  have HB3 := Lib.hid hb3
  clear hb3 hfl hln hone hr1 hr2 hb2
  refine hc.mono ?_
  rintro e w3 ⟨A3, c3, rfl, ho3, hb4⟩
  have HO3 := Lib.hid ho3
  have HB4 := Lib.hid hb4
  clear hc ho3 hb4
  go_wp2_with fail
  go_ret2
  exact ⟨A3, c3, rfl, own_mono HO3.out HB3.out.size, HB3.out.trans (HB4.out.mono HB3.out.size)⟩

end Go.Proofs.YtgnpmmhpeianpaaGreatDoor
