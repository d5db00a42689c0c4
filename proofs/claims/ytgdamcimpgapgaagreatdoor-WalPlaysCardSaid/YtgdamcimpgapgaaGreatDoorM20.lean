/- wal.Replay. -/
import Derived.Test.YtgdamcimpgapgaaGreatDoorM16
import Derived.Test.YtgdamcimpgapgaaGreatDoorM19
import Derived.Test.YtgdamcimpgapgaaGreatDoorM02
namespace Go.Proofs.YtgdamcimpgapgaaGreatDoor
open Go.RowKit

theorem dec_nz (n : Nat) : ∀ c ∈ Lib.decDigits n, c ≠ 0 := by
  induction n using Lib.decDigits.induct with
  | case1 u h =>
    rw [Lib.decDigits, dif_pos h]
    intro c hc
    simp only [List.mem_singleton] at hc
    subst hc
    intro e
    have := congrArg UInt8.toNat e
    simp at this
    omega
  | case2 u h ih =>
    rw [Lib.decDigits, dif_neg h]
    intro c hc
    rcases List.mem_append.1 hc with hc | hc
    · exact ih c hc
    · simp only [List.mem_singleton] at hc
      subst hc
      intro e
      have := congrArg UInt8.toNat e
      simp at this
      omega
theorem repeat48_nz (k : Nat) : ∀ c ∈ Lib.repeatL [48] k, c ≠ 0 := by
  induction k with
  | zero => simp [Lib.repeatL]
  | succ k ih =>
    intro c hc
    rw [Lib.repeatL] at hc
    rcases List.mem_append.1 hc with hc | hc
    · simp only [List.mem_singleton] at hc; subst hc; decide
    · exact ih c hc
theorem indexByte_nz : ∀ l : List UInt8, (∀ c ∈ l, c ≠ 0) → Lib.indexByte l 0 = -1
  | [], _ => rfl
  | b :: l, h => by
    have h1 := h b (.head _)
    have h2 := indexByte_nz l fun c hc => h c (.tail _ hc)
    rw [Lib.indexByte, if_neg (by simpa using h1), h2]
    rfl
theorem walName_nz (n : Nat) : ∀ c ∈ (walName n).data.toList, c ≠ 0 := by
  intro c hc
  simp only [walName] at hc
  rcases List.mem_append.1 hc with hc | hc
  · rcases List.mem_append.1 hc with hc | hc
    · simp only [List.mem_cons, List.not_mem_nil, or_false] at hc
      rcases hc with rfl | rfl | rfl | rfl <;> decide
    · exact repeat48_nz _ c hc
  · exact dec_nz n c hc
theorem walName_named {n : Nat} (h : n ≤ 1099511627776) : named (walName n) = true := by
  unfold named
  rw [indexByte_nz _ (walName_nz n), walName_size h]
  decide
theorem nameW_named {n : Int} (h0 : 0 ≤ n) (h1 : n ≤ 1099511627776) : named (nameW n) = true := by
  rw [nameW_yes h0 h1]; exact walName_named (by omega)

theorem takeFrame_lt {l body rest : List UInt8} {most : Int} (h : takeFrame l most = some (body, rest)) : rest.length < l.length ∧ body.length ≤ l.length := by
  unfold takeFrame at h
  split at h
  · cases h
  · rename_i m r0 htn
    split at h
    · cases h
    · rename_i hm
      split at h
      · simp only [Option.some.injEq, Prod.mk.injEq] at h
        obtain ⟨rfl, rfl⟩ := h
        have := (takeNum_spec htn).1
        simp only [List.length_drop, List.length_take]
        omega
      · cases h

/-- the sound bodies at the head of a segment. -/
def replayB (l : List UInt8) : List (List UInt8) := match _h : takeFrame l 1048576 with
  | none => []
  | some (body, rest) => body :: replayB rest
termination_by l.length
decreasing_by exact (takeFrame_lt _h).1
theorem replayB_none {l : List UInt8} (h : takeFrame l 1048576 = none) : replayB l = [] := by
  rw [replayB]; split
  · rfl
  · rename_i h2; rw [h] at h2; cases h2
theorem replayB_some {l body rest : List UInt8} (h : takeFrame l 1048576 = some (body, rest)) : replayB l = body :: replayB rest := by
  rw [replayB]; split
  · rename_i h2; rw [h] at h2; cases h2
  · rename_i h2; rw [h] at h2; cases h2; rfl

/-- a row of slices of bytes, of the call's own. -/
structure RowS (w : World) (base : Nat) (A : Option Addr) (n c : Nat) (xs : List Bs) : Prop where
  rd : Rd w A n (xs.map Bs.val)
  own : ∀ b, blkOf A = some b → base ≤ b
  nc : n ≤ c
  cm : c ≤ 9223372036854775807
  rows : ∀ x ∈ xs, Rd w x.A x.n (by8 x.l) ∧ (∀ b, blkOf x.A = some b → base ≤ b) ∧ x.n ≤ x.c ∧ x.c ≤ 9223372036854775807

/-- what Replay answers. -/
def RpPost (D : Dk) (n : Int) (w : World) (e : Ending) (w' : World) : Prop :=
  if 0 ≤ n ∧ n ≤ 1099511627776 then
    match findF D.files (nameW n) with
    | none => e = .returned (.tuple #[.slice none 0 0, .int .i64 3]) ∧ Mod Non w w'
    | some f => ∃ A k c xs, e = .returned (.tuple #[.slice A k c, .int .i64 0]) ∧ RowS w' w.heap.size A k c xs ∧ xs.map (·.l) = replayB f.bytes ∧ Mod Non w w'
  else e = .returned (.tuple #[.slice none 0 0, .int .i64 1]) ∧ Mod Non w w'

theorem rowT : ∃ i, Tryz.prog.info? 31 = some i ∧ i.zero = some (.slice none 0 0) ∧ i.size = 1 ∧ i.bytes = 24 := by
  obtain ⟨i, hi, h1, h2, h3⟩ := info_parts (P := Tryz.prog) (e := 31) (z := .slice none 0 0) (size := 1) (bytes := 24) (by kernel_rfl)
  exact ⟨i, hi, h1, h2, h3⟩
theorem bs_one (l : List Bs) : ∀ u ∈ l.map Bs.val, u.oneCell' = true := by
  intro u hu
  obtain ⟨b, _, rfl⟩ := List.mem_map.1 hu
  rfl

/-- append of slices to a slice of slices. -/
theorem wpList_appS {P : Program} {t e : TypeId} (ht : P.underlying t = some (.slice e)) (hT : ∃ i, P.info? e = some i ∧ i.zero = some (.slice none 0 0) ∧ i.size = 1 ∧ i.bytes = 24) (w : World) {ops : Array Oper} {rest : List Oper} {o : Oper} {a : Act} {Q : Exit → Act → World → Prop} (hgd : o.guard = none) (s x : Operand)
    (ho : o.op = .call { callee := .builtin .append, args := #[s, x], argTypes := #[t, t] })
    (base : Nat) (v : Value) (n : Nat) (xs : List Bs) (hs : a.eval s = v) (hown : w.ownsRow base e 1 v n (xs.map Bs.val))
    (A : Option Addr) (m c : Nat) (news : List Bs) (hx : a.eval x = .slice A m c) (hr : Rd w A m (news.map Bs.val))
    (h63 : n + m ≤ 5000000000000) (hbase : base ≤ w.heap.size)
    (h : ∀ A' c' w', n + m ≤ c' → c' ≤ 9223372036854775807 → w'.ownsRow base e 1 (.slice A' (n + m) c') (n + m) ((xs ++ news).map Bs.val) → w.grownBy w' v.ownBlock → (blkOf A' = v.ownBlock ∨ blkOf A' = some w.heap.size) → wpList P ops Q rest (a.put o.dst (.slice A' (n + m) c')) w') : wpList P ops Q (o :: rest) a w := by
  obtain ⟨i, hi, hz, hs1, hb⟩ := hT
  refine wpList_app w hgd s x t ho base e i (.slice none 0 0) 24 ht hi hz hs1 hb rfl v n (xs.map Bs.val) hs hown A m c (news.map Bs.val) hx hr (bs_one _) (by simp only [maxLen]; omega) (by omega) hbase ?_
  intro v' w' hown' hg hat
  obtain ⟨A', c', rfl, hc, hc2⟩ := own_slice hown'
  rw [← List.map_append] at hown'
  exact h A' c' w' hc hc2 hown' hg (by cases A' <;> exact hat)
theorem one_row (w : World) (t : TypeId) (b : Bs) : Rd (w.alloc (.cells #[b.val] t)) (some ⟨w.heap.size, 0, none⟩) 1 ([b].map Bs.val) := by
  refine ⟨rfl, fun _ => ⟨w.heap.size, 0, rfl, fun j u hu => ?_⟩⟩
  match j, hu with
  | 0, hu =>
    simp only [List.map_cons, List.map_nil, List.getElem?_cons_zero, Option.some.injEq] at hu
    subst hu
    simp

def lenOf (v : Value) : Nat := match v with
  | .slice _ n _ => n
  | _ => 0

set_option maxRecDepth 100000 in
set_option maxHeartbeats 400000 in
theorem replay_bad (F : Nat → Prop) (d : Nat) (D : Dk) (n : Int) (w : World) (h : DiskIs w F d D) (ok : DkOk D) (hn : ¬ (0 ≤ n ∧ n ≤ 1099511627776)) :
    Calls Tryz.prog 12 #[.pointer (some ⟨d, 0, none⟩), .int .i64 n] w (RpPost D n w) := by
  have HN := Lib.hid hn
  have HC := Lib.hid (none_any F d D w h ok)
  clear h ok
  go_enter Tryz.func12, Tryz.ntmps12
  go_wp2_with (first
    | (go_at_call 29; refine HC.out.mono ?_; rintro e w1 ⟨rfl, hm1⟩)
    | (go_at_call 26; refine (right_no n _ (by omega)).mono ?_; rintro e w2 ⟨rfl, rfl⟩))
  go_ret2
  unfold RpPost
  rw [if_neg HN.out]
  exact ⟨rfl, hm1⟩

set_option maxRecDepth 100000 in
set_option maxHeartbeats 1000000 in
theorem replay_yes (F : Nat → Prop) (d : Nat) (D : Dk) (n : Int) (w : World) (h : DiskIs w F d D) (ok : DkOk D) (hn : 0 ≤ n ∧ n ≤ 1099511627776) :
    Calls Tryz.prog 12 #[.pointer (some ⟨d, 0, none⟩), .int .i64 n] w (RpPost D n w) := by
  have HH := Lib.hid h
  have HO := Lib.hid ok
  have HNM := Lib.hid (nameW_named hn.1 hn.2)
  have hsz := nameW_size n
  clear h ok
  cases hf : findF D.files (nameW n) with
  | none =>
    have HF := Lib.hid hf
    clear hf
    go_enter Tryz.func12, Tryz.ntmps12
    go_wp2_with (first
      | (go_at_call 29; refine (none_any F d D _ HH.out HO.out).mono ?_; rintro e w1 ⟨rfl, hm1⟩)
      | (go_at_call 26; refine (right_yes n _ (by omega) (by omega)).mono ?_; rintro e w2 ⟨rfl, rfl⟩)
      | (go_at_call 9; refine (name_any n _ (HH.out.lay.mod0 hm1)).mono ?_; rintro e w3 ⟨rfl, hm3⟩; have hm13 := hm1.trans0 hm3)
      | (go_at_call 40
         refine (read_any (nameW n) F d D _ (HH.out.mod0 hm13) HO.out (by omega)).mono ?_
         rintro e w4 hp
         unfold RdPost at hp
         rw [if_pos HNM.out, HF.out] at hp
         obtain ⟨rfl, hm4⟩ := hp))
    go_ret2
    unfold RpPost
    rw [if_pos hn, HF.out]
    exact ⟨rfl, hm13.trans0 hm4⟩
  | some f =>
    have HF := Lib.hid hf
    have hfl : f.bytes.length ≤ 1099511627776 := by
      have hc := find_cost hf
      have h1 := HO.out.us; have h2 := HO.out.u1; have h3 := HO.out.n1
      unfold costF at hc
      omega
    clear hf
    obtain ⟨n0, hn0⟩ : ∃ n0, f.bytes.length = n0 := ⟨_, rfl⟩
    have HN0 := Lib.hid hn0
    rw [hn0] at hfl
    clear hn0
    go_enter Tryz.func12, Tryz.ntmps12
    go_wp2_with (first
      | (go_at_call 29; refine (none_any F d D _ HH.out HO.out).mono ?_; rintro e w1 ⟨rfl, hm1⟩)
      | (go_at_call 26; refine (right_yes n _ (by omega) (by omega)).mono ?_; rintro e w2 ⟨rfl, rfl⟩)
      | (go_at_call 9; refine (name_any n _ (HH.out.lay.mod0 hm1)).mono ?_; rintro e w3 ⟨rfl, hm3⟩; have hm13 := hm1.trans0 hm3)
      | (go_at_call 40
         refine (read_any (nameW n) F d D _ (HH.out.mod0 hm13) HO.out (by omega)).mono ?_
         rintro e w4 hp
         unfold RdPost at hp
         rw [if_pos HNM.out, HF.out] at hp
         dsimp only at hp
         rw [HN0.out] at hp
         obtain ⟨A4, c4, rfl, ho4, hm4⟩ := hp))
    have hm14 := hm13.trans0 hm4
    obtain ⟨_, _, hv, hnc, hcm⟩ := own_slice ho4
    cases hv
    have hr4 := Rd.of_own ho4
    have hb4 := own_base ho4
    have hsz3 := hm13.size
    have hmx : maxLen = 9223372036854775807 := rfl
    rw [hmx] at hcm
    have _t22 := rowT
    have HM14 := Lib.hid hm14
    go_loopw [6, 8, 9, 10, 11] (fun b out _ _ _ wr => ∃ (B : Option Addr) (m k : Nat) (l : List UInt8) (xs : List Bs), b = .slice B m k ∧ RdO wr (fun g => out.ownBlock = some g) B m (by8 l) ∧ m ≤ k ∧ k ≤ 9223372036854775807 ∧ xs.length + m ≤ n0 ∧
        wr.ownsRow w.heap.size 31 1 out xs.length (xs.map Bs.val) ∧ (∀ x ∈ xs, RdO wr (fun g => out.ownBlock = some g) x.A x.n (by8 x.l) ∧ (∀ g, blkOf x.A = some g → w.heap.size ≤ g) ∧ x.n ≤ x.c ∧ x.c ≤ 9223372036854775807) ∧
        Hid (replayB f.bytes = xs.map (·.l) ++ replayB l) ∧ Mod Non w wr) (fun b _ _ _ _ _ => lenOf b)
    case atStart => exact ⟨A4, n0, c4, f.bytes, [], rfl, ⟨hr4, fun _ _ _ h => by simp [Value.ownBlock] at h⟩, hnc, hcm, by simp, World.ownsRow_nil _ _ _ _, by simp, rfl, hm14⟩
    case round =>
      obtain ⟨B, m, k, l, xs, rfl, hrBO, hmk, hkm, hlen, hown, hxs, HR, hmod⟩ := hrel
      have HMO := Lib.hid hmod
      have hrB := hrBO.1
      clear hrBO hm1 hm13 hm3 ho4 hm4 hm14 hr4 hb4 hmod
      have hsz := HMO.out.size
      obtain ⟨Ao, co, rfl, hco, hco2⟩ := own_slice hown
      rcases htf : takeFrame l 1048576 with _ | ⟨body, rest⟩
      · have HTF := Lib.hid htf
        clear htf
        go_wp2_with (go_at_call 41
                     refine (takeFrame_any B m k l 1048576 _ hrB hmk (by omega) hkm).mono ?_
                     rintro e w5 hp
                     unfold TfPost at hp
                     rw [HTF.out] at hp
                     obtain ⟨rfl, hb5⟩ := hp)
        go_ret2
        have hm5 : Mod Non wr w5 := Mod.of_below hb5
        unfold RpPost
        rw [if_pos hn, HF.out]
        refine ⟨Ao, xs.length, co, xs, rfl, ⟨(Rd.of_own hown).mod0 hm5, own_base hown, hco, hco2, fun x hx => ?_⟩, ?_, HMO.out.trans0 hm5⟩
        · obtain ⟨h1, h2, h3, h4⟩ := hxs x hx
          exact ⟨h1.1.mod0 hm5, h2, h3, h4⟩
        · rw [HR.out, replayB_none HTF.out, List.append_nil]
      · have HTF := Lib.hid htf
        have hlt := takeFrame_lt htf
        have hll : l.length = m := by simpa using hrB.1
        have HR2 : Hid (replayB f.bytes = (xs.map (·.l) ++ [body]) ++ replayB rest) := by
          show replayB f.bytes = _
          rw [HR.out, replayB_some htf, List.append_assoc]; rfl
        clear htf HR
        rw [hll] at hlt
        have HLL := Lib.hid hll
        clear hll
        obtain ⟨bn, hbn⟩ : ∃ bn, body.length = bn := ⟨_, rfl⟩
        obtain ⟨rn, hrn⟩ : ∃ rn, rest.length = rn := ⟨_, rfl⟩
        have HBN := Lib.hid hbn
        have HRN := Lib.hid hrn
        rw [hbn, hrn] at hlt
        clear hbn hrn
        go_wp2_with (first
          | (go_at_call 41
             refine (takeFrame_any B m k l 1048576 _ hrB hmk (by omega) hkm).mono ?_
             rintro e w5 hp
             unfold TfPost at hp
             rw [HTF.out] at hp
             dsimp only at hp
             rw [HBN.out, HRN.out] at hp
             obtain ⟨A5, c5, B5, d5, rfl, ho5, hr5, hob5, hn5, hd5, hb5⟩ := hp
             have hown5 := own_mod (S := Non) hown (Mod.of_below hb5) (fun _ _ h => h)
             have HONE := Lib.hid (one_row w5 31 ⟨A5, bn, c5, body⟩)
             have hsz5 := hb5.size)
          | (at_builtin
             refine wpList_appS Tryz.underlying34 rowT _ rfl (.tmp 38) (.tmp 40) rfl w.heap.size (.slice Ao xs.length co) xs.length xs rfl (hown5.alloc _) _ 1 1 [⟨A5, bn, c5, body⟩] rfl HONE.out (by omega) (by simp; omega) ?_
             intro A' c' w' hc' hcm' hown' hg' hat'))
        have hlt2 := hown.lt
        have hS : ∀ g, (Value.slice Ao xs.length co).ownBlock = some g → g < wr.heap.size := fun g hg => (hlt2 g hg).2
        have hm5 : Mod Non wr w5 := Mod.of_below hb5
        have hmg : Mod (fun g => (Value.slice Ao xs.length co).ownBlock = some g) (w5.alloc (.cells #[.slice A5 bn c5] 31)) w' := Mod.of_grown hg' fun _ h => h
        have hnew : ∀ g, (Value.slice A' (xs.length + 1) c').ownBlock = some g → (Value.slice Ao xs.length co).ownBlock = some g ∨ (w5.alloc (.cells #[.slice A5 bn c5] 31)).heap.size ≤ g := fun g hg => by
          have hg2 : blkOf A' = some g := by cases A' <;> exact hg
          rcases hat' with h | h
          · rw [h] at hg2; exact .inl hg2
          · rw [h] at hg2; cases hg2; exact .inr (Nat.le_refl _)
        go_roundw
        case rel =>
          refine ⟨B5, rn, d5, rest, xs ++ [⟨A5, bn, c5, body⟩], rfl, RdO.next (RdO.alloc ⟨hr5, fun _ g hg h => by have := hob5 g hg; have := hS g h; omega⟩ _) hmg hnew, hn5, hd5, by simp; omega, by simpa using hown', ?_, ?_, ?_⟩
          · intro x hx
            rcases List.mem_append.1 hx with hx | hx
            · obtain ⟨h1, h2, h3, h4⟩ := hxs x hx
              exact ⟨RdO.next ((h1.mod0 hm5).alloc _) hmg hnew, h2, h3, h4⟩
            · simp only [List.mem_singleton] at hx
              subst hx
              obtain ⟨_, _, hv, h3, h4⟩ := own_slice ho5
              cases hv
              have hob := own_base ho5
              exact ⟨RdO.next (RdO.alloc ⟨Rd.of_own ho5, fun _ g hg h => by have := hob g hg; have := hS g h; omega⟩ _) hmg hnew, fun g hg => by have := hob g hg; omega, h3, h4⟩
          · show replayB f.bytes = _
            rw [HR2.out]; simp
          · refine ((HMO.out.trans0 hm5).alloc _).trans hmg fun g hg => .inr (hlt2 g hg).1
        case measure => simp only [lenOf]; exact hlt.1

/-- wal.Replay. -/
theorem replay_any (F : Nat → Prop) (d : Nat) (D : Dk) (n : Int) (w : World) (h : DiskIs w F d D) (ok : DkOk D) :
    Calls Tryz.prog 12 #[.pointer (some ⟨d, 0, none⟩), .int .i64 n] w (RpPost D n w) := by
  by_cases hn : 0 ≤ n ∧ n ≤ 1099511627776
  · exact replay_yes F d D n w h ok hn
  · exact replay_bad F d D n w h ok hn

end Go.Proofs.YtgdamcimpgapgaaGreatDoor
