/- What a crash leaves of a segment, and what it replays. Plain. -/
import Derived.Test.YtgdamcimpgapgaaDoorPlain3
namespace Go.Proofs.YtgdamcimpgapgaaDoor
open Go.RowKit

theorem tnGo_part : ∀ (f n k : Nat) (x : Int) (p : List UInt8), n ≤ f → p <+: numB n → p ≠ numB n → (tnGo p k x).2 = 0 := by
  intro f
  induction f with
  | zero =>
    intro n k x p hf hp hne
    obtain rfl : n = 0 := by omega
    rw [numB_last (by omega)] at hp hne
    cases p with
    | nil => rfl
    | cons c p =>
      obtain ⟨r, hr⟩ := hp
      simp only [List.cons_append, List.cons.injEq, List.append_eq_nil_iff] at hr
      exact absurd (by rw [hr.1, hr.2.1]) hne
  | succ f ih =>
    intro n k x p hf hp hne
    by_cases hs : n < 128
    · rw [numB_last hs] at hp hne
      cases p with
      | nil => rfl
      | cons c p =>
        obtain ⟨r, hr⟩ := hp
        simp only [List.cons_append, List.cons.injEq, List.append_eq_nil_iff] at hr
        exact absurd (by rw [hr.1, hr.2.1]) hne
    · rw [numB_more (by omega)] at hp hne
      cases p with
      | nil => rfl
      | cons c p =>
        obtain ⟨r, hr⟩ := hp
        simp only [List.cons_append, List.cons.injEq] at hr
        obtain ⟨rfl, hr⟩ := hr
        have hm := moreB_nat n
        show (if k = 9 ∨ (moreB n).toNat = 0 ∧ 0 < k then (x, 0) else if (moreB n).toNat < 128 then (tnStep k x (moreB n), k + 1) else tnGo p (k + 1) (tnStep k x (moreB n))).2 = 0
        split
        · rfl
        · rw [if_neg (by omega)]
          exact ih (n / 128) (k + 1) _ p (by omega) ⟨r, hr⟩ fun e => hne (by rw [e])
theorem takeNum_part {n : Nat} {p : List UInt8} (hp : p <+: numB n) (hne : p ≠ numB n) : takeNum p = none := by
  unfold takeNum
  rw [if_pos (.inl (tnGo_part n n 0 0 p (Nat.le_refl _) hp hne))]

theorem prefix_split {α : Type} {p a c : List α} (h : p <+: a ++ c) : (p <+: a ∧ p ≠ a) ∨ ∃ q, p = a ++ q ∧ q <+: c := by
  rcases Nat.lt_or_ge p.length a.length with hl | hl
  · exact .inl ⟨List.prefix_of_prefix_length_le h (List.prefix_append a c) (by omega), fun e => by rw [e] at hl; omega⟩
  · obtain ⟨q, rfl⟩ := List.prefix_of_prefix_length_le (List.prefix_append a c) h hl
    exact .inr ⟨q, rfl, (List.prefix_append_right_inj a).1 h⟩

/-- a part of a frame is no frame. -/
theorem takeFrame_part {b p : List UInt8} {most : Int} (hb : b.length ≤ 4611686018427387903) (hp : p <+: frameB b) (hne : p ≠ frameB b) : takeFrame p most = none := by
  unfold frameB at hp
  rcases prefix_split hp with ⟨h1, h2⟩ | ⟨q, rfl, hq⟩
  · unfold takeFrame
    rw [takeNum_part h1 h2]
  · unfold takeFrame
    rw [takeNum_numB hb]
    have hlen := hq.length_le
    have hl4 : (high4 (crcOf (numB b.length ++ b))).length = 4 := rfl
    rw [List.length_append, hl4] at hlen
    have hlt : q.length ≠ 4 + b.length := fun e => hne (by
      unfold frameB
      rw [List.IsPrefix.eq_of_length hq (by rw [List.length_append, hl4]; omega)])
    simp only
    rw [if_pos (.inr (by omega))]

theorem replay_part {b p : List UInt8} (hb : b.length ≤ 1048576) (hp : p <+: frameB b) : replayB p = [] ∨ replayB p = [b] := by
  by_cases hne : p = frameB b
  · right
    have := replayB_frame hb []
    rw [List.append_nil, replayB_nil] at this
    rw [hne, this]
  · left
    exact replayB_none (takeFrame_part (by omega) hp hne)

theorem names_one {D : Dk} {L : List ByteArray} (h : NamesAre D L) {f : Fl} (hf : D.files = [f]) : L = [f.name] := by
  obtain ⟨ss, hp, rfl⟩ := h
  rw [hf] at hp
  have : ss = [f.name.data.toList] := List.perm_singleton.1 hp
  rw [this]
  simp
theorem names_zero {D : Dk} {L : List ByteArray} (h : NamesAre D L) (hf : D.files = []) : L = [] := by
  obtain ⟨ss, hp, rfl⟩ := h
  rw [hf] at hp
  have : ss = [] := List.perm_nil.1 hp
  rw [this]
  simp

theorem crash_one {nm : ByteArray} {D : Dk} {s : Nat} {bs : List UInt8} (ho : One nm D true s bs) (hs : s ≤ bs.length) {L : List ByteArray} (hL : NamesAre D L) (picks : List Int) :
    ∃ k, s ≤ k ∧ k ≤ bs.length ∧ One nm (crashD D picks L) true k (bs.take k) := by
  have hLL := names_one hL (f := ⟨nm, s, bs⟩) (by rw [ho.1]; rfl)
  simp only at hLL
  have hkk := keepC_le (f := ⟨nm, s, bs⟩) hs picks[0]?
  refine ⟨keepC ⟨nm, s, bs⟩ picks[0]?, hkk.1, hkk.2, ?_, fun h => by cases h⟩
  rw [hLL]
  unfold crashD crashL crashL crash1
  rw [ho.find]
  simp only
  rw [ho.1]
  simp [putF]
theorem crash_zero {nm : ByteArray} {D : Dk} {s : Nat} {bs : List UInt8} (ho : One nm D false s bs) {L : List ByteArray} (hL : NamesAre D L) (picks : List Int) : One nm (crashD D picks L) false 0 [] := by
  have hLL := names_zero hL (by rw [ho.1]; rfl)
  rw [hLL]
  exact ⟨by show (crashL picks 0 [] D).files = _; rw [crashL, ho.1]; rfl, fun _ => ⟨rfl, rfl⟩⟩

/-- how the disk stands behind the bodies that were answered for, and one more that was not. -/
structure CutEnd (nm : ByteArray) (D : Dk) (sure : List (List UInt8)) (last : List UInt8) (fail : Bool) : Prop where
  off : D.off = fail
  one : ∃ ex part, One nm D ex (framesB sure).length (framesB sure ++ part) ∧ part <+: frameB last ∧ (fail = false → part = []) ∧ (ex = false → sure = [])
  small : ∀ b ∈ sure, b.length ≤ 1048576
  last : fail = true → last.length ≤ 1048576

theorem cut_final {nm : ByteArray} {D : Dk} {sure : List (List UInt8)} {last : List UInt8} {fail : Bool} (h : CutEnd nm D sure last fail) {L : List ByteArray} (hL : NamesAre D L) (picks : List Int) :
    (findF (crashD D picks L).files nm = none ∧ sure = []) ∨ ∃ f, findF (crashD D picks L).files nm = some f ∧ (replayB f.bytes = sure ∨ fail = true ∧ replayB f.bytes = sure ++ [last]) := by
  obtain ⟨ex, part, ho, hp, hz, hx⟩ := h.one
  cases ex with
  | false => exact .inl ⟨(crash_zero ho hL picks).lost, hx rfl⟩
  | true =>
    right
    obtain ⟨k, hk1, hk2, hk⟩ := crash_one ho (by simp) hL picks
    refine ⟨_, hk.find, ?_⟩
    simp only
    rw [List.take_append, List.take_of_length_le hk1, replayB_frames _ _ h.small]
    cases hfl : fail with
    | false =>
      left
      rw [hz hfl, List.take_nil, replayB_nil, List.append_nil]
    | true =>
      have hpt : part.take (k - (framesB sure).length) <+: frameB last := (List.take_prefix _ _).trans hp
      rcases replay_part (h.last hfl) hpt with e | e
      · left; rw [e, List.append_nil]
      · right; exact ⟨rfl, by rw [e]⟩

end Go.Proofs.YtgdamcimpgapgaaDoor
