/- slices.Clone, code.laid at bytes: a row of the call's own that holds the same bytes. -/
import Derived.Test.YtgnpmmhpeianpaaGreatDoorB01
import Derived.Test.YtgnpmmhpeianpaaGreatDoorChecked
import Derived.OpenShut
namespace Go.Proofs.YtgnpmmhpeianpaaGreatDoor
open Go.RowKit

theorem bt : ByteT Tryz.prog 27 5 := by
  refine ⟨Tryz.underlying27, ?_⟩
  obtain ⟨i, hi, h1, h2, h3⟩ := info_parts (P := Tryz.prog) (e := 5) (z := .int .u8 0) (size := 1) (bytes := 1) (by kernel_rfl)
  exact ⟨i, hi, h1, h2, h3⟩

set_option maxHeartbeats 400000 in
theorem clone_any (A : Option Addr) (n c : Nat) (l : List UInt8) (w : World) (h : Rd w A n (by8 l)) (hn : n ≤ 140737488355328) :
    Calls Tryz.prog 93 #[.slice A n c] w fun e w' => ∃ A' c', e = .returned (.slice A' n c') ∧ w'.ownsRow w.heap.size 5 1 (.slice A' n c') n (by8 l) ∧ Below w.heap.size w w' := by
  have heq := fun W => Lib.run_eql_slice_nil (P := Tryz.prog) W 27 5 A n c 0 0 Tryz.underlying27
  rcases A with _ | a
  · have h0 : n = 0 := by
      rcases Nat.eq_zero_or_pos n with h0 | h0
      · exact h0
      · obtain ⟨b, o, h, _⟩ := h.2 h0
        cases h
    subst h0
    have hl : by8 l = [] := List.eq_nil_of_length_eq_zero h.1
    go_enter Tryz.func93, Tryz.ntmps93
    go_wp2
    go_ret
    exact ⟨none, 0, rfl, by rw [hl]; exact World.ownsRow_nil _ _ _ _, Below.refl _ _⟩
  · go_enter Tryz.func93, Tryz.ntmps93
    have hown : (w.alloc (.cells #[] 5)).ownsRow w.heap.size 5 1 (.slice (some ⟨w.heap.size, 0, none⟩) 0 0) 0 (by8 []) := World.ownsRow_lit (size := 1) w #[] 0 (Nat.le_refl _) (by simp [maxLen]) rfl
    go_wp2_with (at_builtin; refine wpList_app8 bt _ rfl (.tmp 5) (.tmp 6) rfl w.heap.size (.slice (some ⟨w.heap.size, 0, none⟩) 0 0) 0 [] rfl hown _ n c l rfl (h.alloc _) n (by omega) l rfl (by omega) (by simp) ?_; intro A' c' w' hc' hown' hg' hat')
    go_ret
    exact ⟨A', c', rfl, hown', ((Below.refl _ w).alloc (Nat.le_refl _) _).grown hg' (by simp) (by simp [Value.ownBlock])⟩

set_option maxHeartbeats 400000 in
/-- 'laid(b, s)': b's bytes and s's in new memory. -/
theorem laid_any (A B : Option Addr) (n c m d : Nat) (l k : List UInt8) (w : World) (h : Rd w A n (by8 l)) (g : Rd w B m (by8 k)) (hn : n + m ≤ 140737488355328) :
    Calls Tryz.prog 94 #[.slice A n c, .slice B m d] w fun e w' => ∃ A' c', e = .returned (.slice A' (n + m) c') ∧ w'.ownsRow w.heap.size 5 1 (.slice A' (n + m) c') (n + m) (by8 (l ++ k)) ∧ Below w.heap.size w w' := by
  go_enter Tryz.func94, Tryz.ntmps94
  go_wp2_with (first
    | (go_at_call 93; refine (clone_any A n c l _ h (by omega)).mono ?_; rintro e w1 ⟨A1, c1, rfl, ho1, hb1⟩)
    | (at_builtin; refine wpList_app8 bt _ rfl (.tmp 6) (.tmp 7) rfl w.heap.size (.slice A1 n c1) n l rfl ho1 _ m d k rfl (g.mod0 (Mod.of_below hb1)) (n + m) rfl (l ++ k) rfl (by omega) hb1.size ?_; intro A' c' w' hc' hown' hg' hat'))
  go_ret
  exact ⟨A', c', rfl, hown', hb1.grown hg' hb1.size (fun j hj => (ho1.lt j hj).1)⟩

end Go.Proofs.YtgnpmmhpeianpaaGreatDoor

/- code.Crc, code.number, code.high. -/
namespace Go.Proofs.YtgnpmmhpeianpaaGreatDoor
open Go.RowKit

def crcBit (y : Int) : Int := bits BinOp.xor IntKind.u32 (y / 2) (bits BinOp.and IntKind.u32 3988292384 (-bits BinOp.and IntKind.u32 y 1 % 4294967296))
def crcIter : Nat → Int → Int
  | 0, y => y
  | j + 1, y => crcBit (crcIter j y)
def crcStep (z : Int) (c : UInt8) : Int := crcIter 8 (bits BinOp.xor IntKind.u32 z (c.toNat : Int))
def crcFold (l : List UInt8) : Int := l.foldl crcStep 4294967295

def crcOf (l : List UInt8) : Int := bits BinOp.xor IntKind.u32 IntKind.u32.max (crcFold l)
theorem bits_u32 (op : BinOp) (x y : Int) : 0 ≤ bits op .u32 x y ∧ bits op .u32 x y < 4294967296 := by
  have h := wf_bits op .u32 x y
  simp [Lit.wf, IntKind.min, IntKind.max, IntKind.bits, IntKind.signed] at h
  omega
theorem bits_u64 (op : BinOp) (x y : Int) : 0 ≤ bits op .u64 x y ∧ bits op .u64 x y < 18446744073709551616 := by
  have h := wf_bits op .u64 x y
  simp [Lit.wf, IntKind.min, IntKind.max, IntKind.bits, IntKind.signed] at h
  omega
theorem bits_u8 (op : BinOp) (x y : Int) : 0 ≤ bits op .u8 x y ∧ bits op .u8 x y < 256 := by
  have h := wf_bits op .u8 x y
  simp [Lit.wf, IntKind.min, IntKind.max, IntKind.bits, IntKind.signed] at h
  omega
theorem crcOf_bd (l : List UInt8) : 0 ≤ crcOf l ∧ crcOf l < 4294967296 := bits_u32 _ _ _
theorem crcFold_snoc (l : List UInt8) (c : UInt8) : crcFold (l ++ [c]) = crcStep (crcFold l) c := by simp [crcFold]
theorem take_snoc (l : List UInt8) (k : Nat) (c : UInt8) (h : l[k]? = some c) : l.take (k + 1) = l.take k ++ [c] := by
  obtain ⟨hk, e⟩ := List.getElem?_eq_some_iff.1 h
  rw [List.take_succ_eq_append_getElem hk, e]
/-- the byte at k of a slice of bytes. -/
theorem Rd.byte {w : World} {A : Option Addr} {n : Nat} {l : List UInt8} (h : Rd w A n (by8 l)) {k : Nat} (hk : k < n) :
    ∃ b o c, A = some ⟨b, o, none⟩ ∧ l[k]? = some c ∧ w.cell? ⟨b, o + k, none⟩ = some (.int .u8 (c.toNat : Int)) := by
  obtain ⟨b, o, rfl, u, hu, hc⟩ := h.at_ hk
  rw [by8_get] at hu
  cases hx : l[k]? with
  | none => rw [hx] at hu; cases hu
  | some c =>
    rw [hx] at hu
    simp only [Option.map_some, Option.some.injEq] at hu
    subst hu
    exact ⟨b, o, c, rfl, rfl, hc⟩

set_option maxHeartbeats 400000 in
theorem crc_any (A : Option Addr) (n c : Nat) (l : List UInt8) (w : World) (h : Rd w A n (by8 l)) (hn : n ≤ 140737488355328) :
    Calls Tryz.prog 191 #[.slice A n c] w fun e w' => e = .returned (.int .u32 (crcOf l)) ∧ w = w' := by
  have hl : l.length = n := by simpa using h.1
  go_enter Tryz.func191, Tryz.ntmps191
  go_wp2
  go_loop [3, 5, 8] (fun x y i => ∃ k : Nat, k ≤ n ∧ i = .int .i64 k ∧ x = .int .u32 (crcFold (l.take k))) (fun _ _ i => n - (intOf i).toNat)
  case atStart => exact ⟨0, Nat.zero_le _, rfl, rfl⟩
  case round =>
    obtain ⟨k, hk, rfl, rfl⟩ := hrel
    by_cases hlt : k < n
    · obtain ⟨b, o, cb, rfl, hcb, hc⟩ := h.byte hlt
      have H : Hid (crcFold (l.take (k + 1)) = crcStep (crcFold (l.take k)) cb) := by rw [take_snoc l k cb hcb, crcFold_snoc]; rfl
      clear hcb
      have hb := cb.toNat_lt
      obtain ⟨z, hz⟩ : ∃ z, z = crcFold (l.take k) := ⟨_, rfl⟩
      rw [← hz] at H ⊢
      clear hz
      go_wp2
      go_loop [3, 16] (fun x i => ∃ k : Nat, k ≤ 8 ∧ i = .int .i64 k ∧ x = .int .u32 (crcIter k (bits BinOp.xor IntKind.u32 z (cb.toNat : Int)))) (fun _ i => 8 - (intOf i).toNat)
      case atStart => exact ⟨0, Nat.zero_le _, rfl, rfl⟩
      case round =>
        obtain ⟨j, hj, rfl, rfl⟩ := hrel
        by_cases hjl : j < 8
        · go_wp2
          go_round
          case rel => exact ⟨j + 1, by omega, by go_num, rfl⟩
          case measure => simp [intOf]; omega
        · obtain rfl : j = 8 := by omega
          go_wp2
          go_round
          case rel => exact ⟨k + 1, by omega, by go_num, by rw [H.out]; rfl⟩
          case measure => simp [intOf]; omega
    · obtain rfl : k = n := by omega
      rw [List.take_of_length_le (by omega)]
      go_wp2
      go_ret
      exact ⟨rfl, rfl⟩

/-- the number of some bytes, the highest first. -/
def numStep (x : Int) (c : UInt8) : Int := bits BinOp.or IntKind.u64 (x * 256 % 18446744073709551616) (c.toNat : Int)
def numFold (l : List UInt8) : Int := l.foldl numStep 0
theorem numFold_snoc (l : List UInt8) (c : UInt8) : numFold (l ++ [c]) = numStep (numFold l) c := by simp [numFold]
theorem numFold_bd (l : List UInt8) : 0 ≤ numFold l ∧ numFold l < 18446744073709551616 := by
  rcases List.eq_nil_or_concat l with rfl | ⟨k, c, rfl⟩
  · simp [numFold]
  · rw [List.concat_eq_append, numFold_snoc]; exact bits_u64 _ _ _

set_option maxHeartbeats 400000 in
theorem number_any (A : Option Addr) (n c : Nat) (l : List UInt8) (w : World) (h : Rd w A n (by8 l)) (hn : n ≤ 140737488355328) :
    Calls Tryz.prog 190 #[.slice A n c] w fun e w' => e = .returned (.int .u64 (numFold l)) ∧ w = w' := by
  have hl : l.length = n := by simpa using h.1
  go_enter Tryz.func190, Tryz.ntmps190
  go_wp2
  go_loop [3, 5, 8] (fun x y i => ∃ k : Nat, k ≤ n ∧ i = .int .i64 k ∧ x = .int .u64 (numFold (l.take k))) (fun _ _ i => n - (intOf i).toNat)
  case atStart => exact ⟨0, Nat.zero_le _, rfl, rfl⟩
  case round =>
    obtain ⟨k, hk, rfl, rfl⟩ := hrel
    by_cases hlt : k < n
    · obtain ⟨b, o, cb, rfl, hcb, hc⟩ := h.byte hlt
      have H : Hid (numFold (l.take (k + 1)) = numStep (numFold (l.take k)) cb) := by rw [take_snoc l k cb hcb, numFold_snoc]; rfl
      have hbd := numFold_bd (l.take k)
      clear hcb
      have hb := cb.toNat_lt
      obtain ⟨z, hz⟩ : ∃ z, z = numFold (l.take k) := ⟨_, rfl⟩
      rw [← hz] at H hbd ⊢
      clear hz
      go_wp2
      go_round
      case rel => exact ⟨k + 1, by omega, by go_num, by rw [H.out]; rfl⟩
      case measure => simp [intOf]; omega
    · obtain rfl : k = n := by omega
      rw [List.take_of_length_le (by omega)]
      go_wp2
      go_ret
      exact ⟨rfl, rfl⟩

end Go.Proofs.YtgnpmmhpeianpaaGreatDoor

/- The skip list as it lies in memory: towers, each an entry of its own, linked by height. -/
namespace Go.Proofs.YtgnpmmhpeianpaaGreatDoor
open Go.RowKit

/-- an entry of the engine. -/
structure En where
  key : List UInt8
  seq : Int
  gone : Bool
  val : List UInt8
/-- a tower: an entry, and how high. -/
structure Tw where
  e : En
  h : Nat

/-- the first tower that is so high. -/
def nxB : List (Nat × Tw) → Nat → Option Nat
  | [], _ => none
  | p :: r, h => if h < p.2.h then some p.1 else nxB r h
/-- the last tower that is so high; from where one stands. -/
def lastB : Nat → List (Nat × Tw) → Nat → Nat
  | l, [], _ => l
  | l, p :: r, h => lastB (if h < p.2.h then p.1 else l) r h
def ptrB (o : Option Nat) : Value := .pointer (o.map fun b => ⟨b, 0, none⟩)
/-- what comes next, by height, of one that is g high. -/
def nxs (g : Nat) (bs : List (Nat × Tw)) : List Value := (List.range 12).map fun h => if h < g then ptrB (nxB bs h) else .pointer none
theorem nxs_len (g : Nat) (bs : List (Nat × Tw)) : (nxs g bs).length = 12 := by simp [nxs]
theorem nxs_get (g : Nat) (bs : List (Nat × Tw)) {h : Nat} (h12 : h < 12) : (nxs g bs)[h]? = some (if h < g then ptrB (nxB bs h) else .pointer none) := by
  unfold nxs
  rw [List.getElem?_map, List.getElem?_range h12]
  rfl

theorem lastB_append (l : Nat) (a b : List (Nat × Tw)) (h : Nat) : lastB l (a ++ b) h = lastB (lastB l a h) b h := by
  induction a generalizing l with
  | nil => rfl
  | cons p r ih => rw [List.cons_append, lastB, lastB, ih]
theorem lastB_low (l : Nat) (a : List (Nat × Tw)) (h : Nat) (ha : ∀ p ∈ a, ¬ h < p.2.h) : lastB l a h = l := by
  induction a generalizing l with
  | nil => rfl
  | cons p r ih => rw [lastB, if_neg (ha p (.head _)), ih _ fun q hq => ha q (.tail _ hq)]
theorem nxB_none {a : List (Nat × Tw)} {h : Nat} (ha : nxB a h = none) : ∀ p ∈ a, ¬ h < p.2.h := by
  induction a with
  | nil => intro p hp; cases hp
  | cons q r ih =>
    rw [nxB] at ha
    split at ha
    · cases ha
    · rename_i hn
      intro p hp
      rcases List.mem_cons.1 hp with rfl | hp
      · exact hn
      · exact ih ha p hp
theorem nxB_some {a : List (Nat × Tw)} {h b : Nat} (ha : nxB a h = some b) : ∃ j t, a[j]? = some (b, t) ∧ h < t.h ∧ ∀ p ∈ a.take j, ¬ h < p.2.h := by
  induction a with
  | nil => cases ha
  | cons q r ih =>
    rw [nxB] at ha
    split at ha
    · rename_i hh
      cases ha
      exact ⟨0, q.2, rfl, hh, fun p hp => by simp at hp⟩
    · rename_i hn
      obtain ⟨j, t, h1, h2, h3⟩ := ih ha
      refine ⟨j + 1, t, by simpa using h1, h2, fun p hp => ?_⟩
      rw [List.take_succ_cons] at hp
      rcases List.mem_cons.1 hp with rfl | hp
      · exact hn
      · exact h3 p hp

/-- an entry's value as it is handed on: where its bytes lie. -/
def enVal (e : En) (A B : Option Addr) (c d : Nat) : Value := .agg #[.slice A e.key.length c, .int .i64 e.seq, .bool e.gone, .slice B e.val.length d]
/-- its bytes are there. -/
structure EnOk (w : World) (e : En) (A B : Option Addr) (c d : Nat) : Prop where
  rk : Rd w A e.key.length (by8 e.key)
  rv : Rd w B e.val.length (by8 e.val)
  kc : e.key.length ≤ c
  cm : c ≤ 9223372036854775807
  vd : e.val.length ≤ d
  dm : d ≤ 9223372036854775807
theorem EnOk.mod {S : Nat → Prop} {w w' : World} {e : En} {A B : Option Addr} {c d : Nat} (h : EnOk w e A B c d) (hm : Mod S w w') (hA : 0 < e.key.length → Off S A) (hB : 0 < e.val.length → Off S B) : EnOk w' e A B c d :=
  ⟨h.rk.mod hm hA, h.rv.mod hm hB, h.kc, h.cm, h.vd, h.dm⟩
theorem EnOk.mod0 {w w' : World} {e : En} {A B : Option Addr} {c d : Nat} (h : EnOk w e A B c d) (hm : Mod Non w w') : EnOk w' e A B c d := h.mod hm (fun _ => Off.non _) fun _ => Off.non _

/-- a tower in memory, r behind it; its bytes lie in blocks of G. -/
def TwAt (w : World) (G : Nat → Prop) (b : Nat) (t : Tw) (r : List (Nat × Tw)) : Prop :=
  ∃ A B c d, Blk w b 208 (#[.slice A t.e.key.length c, .int .i64 t.e.seq, .bool t.e.gone, .slice B t.e.val.length d, .int .i64 (t.h : Int)] ++ (nxs t.h r).toArray) ∧ EnOk w t.e A B c d ∧ (∀ x, blkOf A = some x → G x) ∧ ∀ x, blkOf B = some x → G x
def TwsAt (w : World) (G : Nat → Prop) : List (Nat × Tw) → Prop
  | [] => True
  | p :: r => TwAt w G p.1 p.2 r ∧ TwsAt w G r

section
variable {w w' : World} {G G' S F : Nat → Prop}
theorem TwAt.mod {b : Nat} {t : Tw} {r : List (Nat × Tw)} (h : TwAt w G b t r) (hm : Mod S w w') (hb : ¬ S b) (hG : ∀ k, G k → ¬ S k) (hGG : ∀ k, G k → G' k) : TwAt w' G' b t r := by
  obtain ⟨A, B, c, d, h1, h2, h3, h4⟩ := h
  exact ⟨A, B, c, d, h1.mod hm hb, h2.mod hm (fun _ x hx => hG x (h3 x hx)) (fun _ x hx => hG x (h4 x hx)), fun x hx => hGG x (h3 x hx), fun x hx => hGG x (h4 x hx)⟩
theorem TwsAt.mod (hm : Mod S w w') (hG : ∀ k, G k → ¬ S k) (hGG : ∀ k, G k → G' k) : ∀ {bs : List (Nat × Tw)}, TwsAt w G bs → (∀ p ∈ bs, ¬ S p.1) → TwsAt w' G' bs
  | [], _, _ => trivial
  | p :: _, h, hb => ⟨h.1.mod hm (hb p (.head _)) hG hGG, TwsAt.mod hm hG hGG h.2 fun q hq => hb q (.tail _ hq)⟩
theorem TwsAt.get : ∀ {bs : List (Nat × Tw)} {j : Nat} {p : Nat × Tw}, TwsAt w G bs → bs[j]? = some p → TwAt w G p.1 p.2 (bs.drop (j + 1))
  | [], _, _, _, hp => by simp at hp
  | q :: r, 0, p, h, hp => by
    simp only [List.getElem?_cons_zero, Option.some.injEq] at hp
    subst hp
    exact h.1
  | q :: r, j + 1, p, h, hp => by
    rw [List.getElem?_cons_succ] at hp
    have := TwsAt.get (bs := r) h.2 hp
    rwa [List.drop_succ_cons]
end

/-- the list's own block. -/
def lsCells (bs : List (Nat × Tw)) (count size : Int) : Array Value := #[.slice none 0 0, .int .i64 0, .bool false, .slice none 0 0, .int .i64 0] ++ (nxs 12 bs).toArray ++ #[.int .i64 count, .int .i64 size]
def twSize (xs : List Tw) : Int := xs.foldl (fun n t => n + t.e.key.length + t.e.val.length + 8) 0

/-- a skip list at block l. -/
structure LsAt (w : World) (G : Nat → Prop) (l : Nat) (bs : List (Nat × Tw)) : Prop where
  blk : Blk w l 210 (lsCells bs (bs.length : Int) (twSize (bs.map (·.2))))
  tws : TwsAt w G bs
  nd : (bs.map (·.1)).Nodup
  lb : l ∉ bs.map (·.1)
  gl : ∀ k, G k → k ≠ l ∧ k ∉ bs.map (·.1)
def LsIs (w : World) (F : Nat → Prop) (l : Nat) (xs : List Tw) : Prop :=
  ∃ G bs, LsAt w G l bs ∧ bs.map (·.2) = xs ∧ F l ∧ (∀ p ∈ bs, F p.1) ∧ (∀ k, G k → F k) ∧ ∀ k, F k → k < w.heap.size

section
variable {w w' : World} {G S F : Nat → Prop} {l : Nat} {bs : List (Nat × Tw)} {xs : List Tw}
theorem LsAt.mod (h : LsAt w G l bs) (hm : Mod S w w') (hl : ¬ S l) (hb : ∀ p ∈ bs, ¬ S p.1) (hG : ∀ k, G k → ¬ S k) : LsAt w' G l bs :=
  ⟨h.blk.mod hm hl, h.tws.mod hm hG (fun _ h => h) hb, h.nd, h.lb, h.gl⟩
theorem LsIs.mod (h : LsIs w F l xs) (hm : Mod S w w') (hS : ∀ k, F k → ¬ S k) : LsIs w' F l xs := by
  obtain ⟨G, bs, h1, h2, h3, h4, h5, h6⟩ := h
  exact ⟨G, bs, h1.mod hm (hS _ h3) (fun p hp => hS _ (h4 p hp)) (fun k hk => hS k (h5 k hk)), h2, h3, h4, h5, fun k hk => Nat.lt_of_lt_of_le (h6 k hk) hm.size⟩
theorem LsIs.mod0 (h : LsIs w F l xs) (hm : Mod Non w w') : LsIs w' F l xs := h.mod hm fun _ _ h => h
theorem ls_next {h : Nat} (h12 : h < 12) {count size : Int} : (lsCells bs count size)[5 + h]? = some (ptrB (nxB bs h)) := by
  unfold lsCells
  rw [Array.getElem?_append_left (by simp [nxs_len]; omega), Array.getElem?_append_right (by simp)]
  simp only [List.size_toArray, List.length_cons, List.length_nil, Nat.zero_add, Nat.reduceAdd, Nat.add_sub_cancel_left, List.getElem?_toArray]
  rw [nxs_get 12 bs h12, if_pos h12]
theorem tw_next {a b c d e : Value} {g h : Nat} (h12 : h < 12) (hg : h < g) {r : List (Nat × Tw)} : (#[a, b, c, d, e] ++ (nxs g r).toArray)[5 + h]? = some (ptrB (nxB r h)) := by
  rw [Array.getElem?_append_right (by simp)]
  simp only [List.size_toArray, List.length_cons, List.length_nil, Nat.zero_add, Nat.reduceAdd, Nat.add_sub_cancel_left, List.getElem?_toArray]
  rw [nxs_get g r h12, if_pos hg]

/-- where one stands, i towers on. -/
def posB (l : Nat) (bs : List (Nat × Tw)) (i : Nat) : Nat := match i with
  | 0 => l
  | j + 1 => match bs[j]? with
    | some p => p.1
    | none => l
/-- one stands at a place of a height: at the head, or at a tower that is so high. -/
def High (bs : List (Nat × Tw)) (i h : Nat) : Prop := ∀ j, i = j + 1 → ∃ p, bs[j]? = some p ∧ h < p.2.h
theorem High.down {i h g : Nat} (hh : High bs i h) (hg : g ≤ h) : High bs i g := fun j hj => by
  obtain ⟨p, h1, h2⟩ := hh j hj
  exact ⟨p, h1, by omega⟩
theorem LsAt.next (H : LsAt w G l bs) {i h : Nat} (hh : High bs i h) (h12 : h < 12) : w.cell? ⟨posB l bs i, 5 + h, none⟩ = some (ptrB (nxB (bs.drop i) h)) := by
  cases i with
  | zero => exact (H.blk.cell (5 + h)).trans (ls_next h12)
  | succ j =>
    obtain ⟨p, hp, hg⟩ := hh j rfl
    obtain ⟨A, B, c, d, hb, _⟩ := H.tws.get hp
    have : posB l bs (j + 1) = p.1 := by unfold posB; simp only [hp]
    rw [this]
    exact (hb.cell (5 + h)).trans (tw_next h12 hg)
theorem posB_last {i h : Nat} (hh : High bs i h) : lastB l (bs.take i) h = posB l bs i := by
  cases i with
  | zero => rfl
  | succ j =>
    obtain ⟨p, hp, hg⟩ := hh j rfl
    obtain ⟨hj, he⟩ := List.getElem?_eq_some_iff.1 hp
    rw [List.take_succ_eq_append_getElem hj, he, lastB_append, lastB, lastB, if_pos hg]
    unfold posB
    simp only [hp]
theorem posB_step {i h j : Nat} {b : Nat} {t : Tw} (hj : (bs.drop i)[j]? = some (b, t)) (hg : h < t.h) : posB l bs (i + j + 1) = b ∧ High bs (i + j + 1) h := by
  rw [List.getElem?_drop] at hj
  refine ⟨by unfold posB; simp only [hj], fun q hq => ?_⟩
  obtain rfl : q = i + j := by omega
  exact ⟨_, hj, hg⟩
/-- the path's end at a height: the last of the first k. -/
theorem posB_end {i h k : Nat} (hh : High bs i h) (hik : i ≤ k) (hn : ∀ p ∈ (bs.take k).drop i, ¬ h < p.2.h) : lastB l (bs.take k) h = posB l bs i := by
  have : bs.take k = bs.take i ++ (bs.take k).drop i := by
    conv => lhs; rw [← List.take_append_drop i (bs.take k)]
    rw [List.take_take, Nat.min_eq_left hik]
  rw [this, lastB_append, posB_last hh, lastB_low _ _ _ hn]
end

end Go.Proofs.YtgnpmmhpeianpaaGreatDoor
