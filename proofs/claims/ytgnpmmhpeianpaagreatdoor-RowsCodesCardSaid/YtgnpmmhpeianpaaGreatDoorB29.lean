/- rows.numbers and its closures. -/
import Derived.Test.YtgnpmmhpeianpaaGreatDoorB18
import Derived.Test.YtgnpmmhpeianpaaGreatDoorB01
import Derived.Laws.EntriesVeiled
namespace Go.Proofs.YtgnpmmhpeianpaaGreatDoor
open Go.RowKit

/-- a row that is just so many numbers. -/
def decN (n : Nat) (l : List UInt8) : Option (List Nat) := match takeN n l with
  | some (ms, q) => if q.length = 0 ∧ inAll (ms.map fun m : Nat => (m : Int)) = true then some ms else none
  | none => none
theorem i64s_map (ms : List Nat) : i64s ms = (ms.map fun m : Nat => (m : Int)).map (Value.int .i64) := by unfold i64s; simp

/-- what decode answers. -/
def DnPost (n : Nat) (l : List UInt8) (w : World) (e : Ending) (w' : World) : Prop := match decN n l with
  | none => e = .returned (.tuple #[.slice none 0 0, .int .i64 2]) ∧ Mod Non w w'
  | some ms => ∃ A1 c1, e = .returned (.tuple #[.slice A1 n c1, .int .i64 0]) ∧ Rd w' A1 n (i64s ms) ∧ (n ≤ c1 ∧ c1 ≤ 9223372036854775807) ∧ Mod Non w w'

set_option maxRecDepth 100000 in
set_option maxHeartbeats 1000000 in
theorem dec_any (A : Option Addr) (m c : Nat) (l : List UInt8) (n : Nat) (bx : Nat) (w : World) (hb : w.cell? ⟨bx, 0, none⟩ = some (.int .i64 (n : Int))) (h : Rd w A m (by8 l)) (hmc : m ≤ c) (hm : m ≤ 140737488355328) (hcm : c ≤ 9223372036854775807) (hn : n ≤ 100) :
    Calls Tryz.prog 86 #[.slice A m c, .pointer (some ⟨bx, 0, none⟩)] w (DnPost n l w) := by
  have HT := Lib.hid (takeW_any A m c l n w h hmc hm hcm hn)
  unfold DnPost
  cases htk : takeN n l with
  | none =>
    have hd : decN n l = none := by unfold decN; rw [htk]
    rw [hd]
    have HK := Lib.hid htk
    clear hd htk h
    go_enter Tryz.func86, Tryz.ntmps86
    go_wp2_with fail
    refine HT.out.mono ?_
    intro e w1 hp
    unfold TkPost at hp
    rw [HK.out] at hp
    obtain ⟨rfl, hm1⟩ := hp
    have HM1 := Lib.hid hm1
    clear hm1
    go_wp2_with fail
    go_ret2
    exact ⟨rfl, HM1.out⟩
  | some p =>
    obtain ⟨ms, q⟩ := p
    obtain ⟨qn, hqn⟩ : ∃ qn, q.length = qn := ⟨_, rfl⟩
    obtain ⟨b, hbb⟩ : ∃ b, inAll (ms.map fun m : Nat => (m : Int)) = b := ⟨_, rfl⟩
    have hd : decN n l = if qn = 0 ∧ b = true then some ms else none := by unfold decN; rw [htk]; simp only [hqn, hbb]
    rw [hd]
    have HK := Lib.hid htk
    have HQ := Lib.hid hqn
    have HB := Lib.hid hbb
    clear hd htk h hqn hbb
    by_cases hq0 : qn = 0
    · subst hq0
      cases b with
      | true =>
        rw [if_pos ⟨rfl, rfl⟩]
        go_enter Tryz.func86, Tryz.ntmps86
        go_wp2_with fail
        refine HT.out.mono ?_
        intro e w1 hp
        unfold TkPost at hp
        rw [HK.out] at hp
        obtain ⟨A1, c1, A2, n2, c2, rfl, hr1, hc1, hn2, _, _, hm1⟩ := hp
        rw [HQ.out] at hn2
        subst hn2
        have hin := inR_rows A1 n c1 _ w1 (by rw [← i64s_map]; exact hr1) (by omega)
        rw [HB.out] at hin
        have HI := Lib.hid hin
        have HM1 := Lib.hid hm1
        have HR1 := Lib.hid hr1
        clear hm1 hr1 hin
        go_wp2_with (go_at_call 59; refine HI.out.mono ?_; rintro e w2 ⟨rfl, rfl⟩)
        go_ret2
        exact ⟨A1, c1, rfl, HR1.out, hc1, HM1.out⟩
      | false =>
        rw [if_neg (by simp)]
        go_enter Tryz.func86, Tryz.ntmps86
        go_wp2_with fail
        refine HT.out.mono ?_
        intro e w1 hp
        unfold TkPost at hp
        rw [HK.out] at hp
        obtain ⟨A1, c1, A2, n2, c2, rfl, hr1, hc1, hn2, _, _, hm1⟩ := hp
        rw [HQ.out] at hn2
        subst hn2
        have hin := inR_rows A1 n c1 _ w1 (by rw [← i64s_map]; exact hr1) (by omega)
        rw [HB.out] at hin
        have HI := Lib.hid hin
        have HM1 := Lib.hid hm1
        clear hm1 hr1 hin
        go_wp2_with (go_at_call 59; refine HI.out.mono ?_; rintro e w2 ⟨rfl, rfl⟩)
        go_ret2
        exact ⟨rfl, HM1.out⟩
    · rw [if_neg (fun h => hq0 h.1)]
      go_enter Tryz.func86, Tryz.ntmps86
      go_wp2_with fail
      refine HT.out.mono ?_
      intro e w1 hp
      unfold TkPost at hp
      rw [HK.out] at hp
      obtain ⟨A1, c1, A2, n2, c2, rfl, hr1, hc1, hn2, _, _, hm1⟩ := hp
      rw [HQ.out] at hn2
      subst hn2
      have HM1 := Lib.hid hm1
      have hgt : decide (0 < (qn : Int)) = true := decide_eq_true (by omega)
      clear hm1 hr1
      go_wp2_with fail
      go_ret2
      exact ⟨rfl, HM1.out⟩

/-- what encode answers. -/
def NePost (xs : List Int) (w : World) (e : Ending) (w' : World) : Prop := if inAll xs = true then ∃ A' n' c', e = .returned (.tuple #[.slice A' n' c', .int .i64 0]) ∧ n' = (nBs xs).length ∧ Rd w' A' n' (by8 (nBs xs)) ∧ n' ≤ c' ∧ c' ≤ 9223372036854775807 ∧ Mod Non w w' else e = .returned (.tuple #[.slice none 0 0, .int .i64 1]) ∧ Mod Non w w'

set_option maxRecDepth 100000 in
set_option maxHeartbeats 400000 in
theorem enc_any (B : Option Addr) (m d : Nat) (xs : List Int) (w : World) (g : Rd w B m (xs.map (Value.int .i64))) (hm : m ≤ 1000) :
    Calls Tryz.prog 85 #[.slice B m d] w (NePost xs w) := by
  have HI := Lib.hid (inR_rows B m d xs w g (by omega))
  have HN := Lib.hid (numsW_any B m d xs w g hm)
  obtain ⟨b, hb⟩ : ∃ b, inAll xs = b := ⟨_, rfl⟩
  rw [hb] at HI
  have HB := Lib.hid hb
  clear g hb
  cases b with
  | false =>
    go_enter Tryz.func85, Tryz.ntmps85
    go_wp2_with (go_at_call 59; refine HI.out.mono ?_; rintro e w2 ⟨rfl, rfl⟩)
    go_ret2
    unfold NePost
    rw [HB.out, if_neg (by simp)]
    exact ⟨rfl, Mod.refl _ _⟩
  | true =>
    go_enter Tryz.func85, Tryz.ntmps85
    go_wp2_with (first
      | (go_at_call 59; refine HI.out.mono ?_; rintro e w2 ⟨rfl, rfl⟩)
      | (go_at_call 27; refine HN.out.mono ?_; rintro e w2 ⟨A', n', c', rfl, hn', hr', hc1, hc2, hm'⟩; have HN' := Lib.hid hn'; have HR' := Lib.hid hr'; have HM' := Lib.hid hm'; clear hn' hr' hm')
      | fail)
    go_ret2
    unfold NePost
    rw [HB.out, if_pos rfl]
    exact ⟨A', n', c', rfl, HN'.out, HR'.out, hc1, hc2, HM'.out⟩

/-- how rows of n numbers of a table are read and written; bx: the box that holds n. -/
def kindV (table : Int) (bx : Nat) : Value := .agg #[.int .i64 table, .func (.func 85) #[] #[], .func (.func 86) #[] #[.pointer (some ⟨bx, 0, none⟩)], .int .i64 0]

set_option maxRecDepth 100000 in
set_option maxHeartbeats 400000 in
theorem numbers_any (table : Int) (n : Nat) (w : World) : Calls Tryz.prog 46 #[.int .i64 table, .int .i64 (n : Int)] w fun e w' => e = .returned (kindV table w.heap.size) ∧ w'.cell? ⟨w.heap.size, 0, none⟩ = some (.int .i64 (n : Int)) ∧ Mod Non w w' := by
  have HB := Lib.hid ((Blk.new w 3 #[.int .i64 (n : Int)]).alloc (.cells #[.int .i64 table, .func (.func 85) #[] #[], .func (.func 86) #[] #[.pointer (some ⟨w.heap.size, 0, none⟩)], .int .i64 0] 94))
  have hk := Blk.new (w.alloc (.cells #[.int .i64 (n : Int)] 3)) 94 #[.int .i64 table, .func (.func 85) #[] #[], .func (.func 86) #[] #[.pointer (some ⟨w.heap.size, 0, none⟩)], .int .i64 0]
  rw [World.size_alloc] at hk
  have HK := Lib.hid hk
  clear hk
  unfold kindV
  go_enter Tryz.func46, Tryz.ntmps46
  go_wp2_with fail
  refine bodyPost_ret (results_cell_row rfl _ _ (w.heap.size + 1) 94 _ (0, 0) _ rfl HK.out Tryz.underlying94 rfl (by kernel_rfl)) rfl ?_
  exact ⟨rfl, HB.out.cell 0, ((Mod.refl Non w).alloc _).alloc _⟩

end Go.Proofs.YtgnpmmhpeianpaaGreatDoor
