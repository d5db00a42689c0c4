/- Bytes in pieces, appended one by one; results in a cell. -/
import Derived.Test.YtdpjnpjmokncdaaGreatDoorB10
import Derived.Test.YtdpjnpjmokncdaaGreatDoorB09
import Derived.Test.YtdpjnpjmokncdaaGreatDoorB39
import Derived.Shelf.RegionOpen
import Derived.Laws.ResultCell
namespace Go.Proofs.YtdpjnpjmokncdaaGreatDoor
open Go.RowKit

attribute [local go_sem] Oper.semAt_some

/-- a slice cut into pieces of at most 4096 bytes. -/
def chunkBs (A : Option Addr) (n c : Nat) (l : List UInt8) : List Bs :=
  if _h : n = 0 then [] else
    ⟨A, min n 4096, c, l.take (min n 4096)⟩ :: chunkBs (if c = min n 4096 then A else A.map (·.add (min n 4096))) (n - min n 4096) (c - min n 4096) (l.drop (min n 4096))
termination_by n
decreasing_by omega

theorem chunkBs_zero (A : Option Addr) (c : Nat) (l : List UInt8) : chunkBs A 0 c l = [] := by rw [chunkBs]; simp
theorem chunkBs_pos (A : Option Addr) {n : Nat} (c : Nat) (l : List UInt8) (h : n ≠ 0) : chunkBs A n c l = ⟨A, min n 4096, c, l.take (min n 4096)⟩ :: chunkBs (if c = min n 4096 then A else A.map (·.add (min n 4096))) (n - min n 4096) (c - min n 4096) (l.drop (min n 4096)) := by
  rw [chunkBs, dif_neg h]

theorem chunkBs_is (m : Nat) : ∀ (A : Option Addr) (n c : Nat) (l : List UInt8) (w : World) (S : Nat → Prop), n ≤ m → Rd w A n (by8 l) → n ≤ c → (∀ b, blkOf A = some b → ¬ S b) →
    (∀ x ∈ chunkBs A n c l, Rd w x.A x.n (by8 x.l) ∧ x.n ≤ 4096 ∧ x.n ≤ x.c ∧ x.c ≤ c ∧ x.n ≠ 0 ∧ ∀ b, blkOf x.A = some b → ¬ S b) ∧ flat (chunkBs A n c l) = l := by
  induction m with
  | zero =>
    intro A n c l w S hm h _ _
    obtain rfl : n = 0 := by omega
    rw [chunkBs_zero]
    have hl : l = [] := List.eq_nil_of_length_eq_zero (by simpa using h.1)
    exact ⟨by simp, by rw [hl]; rfl⟩
  | succ m ih =>
    intro A n c l w S hm h hc hS
    by_cases h0 : n = 0
    · subst h0
      rw [chunkBs_zero]
      have hl : l = [] := List.eq_nil_of_length_eq_zero (by simpa using h.1)
      exact ⟨by simp, by rw [hl]; rfl⟩
    · rw [chunkBs_pos A c l h0]
      have hcut := h.cut (k := min n 4096) (cap := c) (by omega) hc
      rw [← by8_drop] at hcut
      have hoff : Off S (if c = min n 4096 then A else A.map (·.add (min n 4096))) := Off.cut hS
      obtain ⟨h1, h2⟩ := ih _ (n - min n 4096) (c - min n 4096) (l.drop (min n 4096)) w S (by omega) hcut (by omega) hoff
      refine ⟨fun x hx => ?_, by simp only [flat]; rw [h2, List.take_append_drop]⟩
      rcases List.mem_cons.1 hx with rfl | hx
      · refine ⟨by simpa [by8_take] using h.take (k := min n 4096) (by omega), ?_, ?_, Nat.le_refl _, ?_, hS⟩
        · simp only; omega
        · simp only; omega
        · simp only; omega
      · obtain ⟨a1, a2, a3, a4, a5⟩ := h1 x hx
        exact ⟨a1, a2, a3, by omega, a5⟩

attribute [local go_sem] Oper.semAt_some

/-- the pieces of a frame appended one by one: the disk behind, and the first error. -/
def appStep (nm : ByteArray) (s : Dk × Int) (b : List UInt8) : Dk × Int := if s.2 = 0 then (appendD s.1 nm b, appendE s.1 nm b) else s

def appAll (nm : ByteArray) (D : Dk) (l : List (List UInt8)) : Dk × Int := l.foldl (appStep nm) (D, 0)
theorem appAll_snoc (nm : ByteArray) (D : Dk) (l : List (List UInt8)) (b : List UInt8) : appAll nm D (l ++ [b]) = appStep nm (appAll nm D l) b := by simp [appAll]
theorem appStep_stop {nm : ByteArray} {s : Dk × Int} (h : s.2 ≠ 0) : ∀ l : List (List UInt8), l.foldl (appStep nm) s = s
  | [] => rfl
  | b :: r => by rw [List.foldl_cons, show appStep nm s b = s by unfold appStep; rw [if_neg h]]; exact appStep_stop h r

theorem appAll_stop {nm : ByteArray} {D : Dk} {l k : List (List UInt8)} (hk : l <+: k) (h : (appAll nm D l).2 ≠ 0) : appAll nm D k = appAll nm D l := by
  obtain ⟨r, rfl⟩ := hk
  unfold appAll at *
  rw [List.foldl_append]
  exact appStep_stop h r

theorem appAll_ok {nm : ByteArray} {D : Dk} (ok : DkOk D) (l : List (List UInt8)) : DkOk (appAll nm D l).1 := by
  unfold appAll
  suffices ∀ s : Dk × Int, DkOk s.1 → DkOk (l.foldl (appStep nm) s).1 from this _ ok
  intro s hs
  induction l generalizing s with
  | nil => exact hs
  | cons b r ih =>
    rw [List.foldl_cons]
    refine ih _ ?_
    unfold appStep
    split
    · exact appendD_ok hs nm b
    · exact hs

/-- a list of bytes cut into pieces of at most 4096. -/
def piecesB (l : List UInt8) : List (List UInt8) := if _h : l.length = 0 then [] else l.take 4096 :: piecesB (l.drop 4096)
termination_by l.length
decreasing_by simp only [List.length_drop]; omega

theorem chunkBs_l (m : Nat) : ∀ (A : Option Addr) (n c : Nat) (l : List UInt8), n ≤ m → l.length = n → (chunkBs A n c l).map (·.l) = piecesB l := by
  induction m with
  | zero => intro A n c l hm hl; obtain rfl : n = 0 := by omega
            rw [chunkBs_zero, piecesB, dif_pos hl]; rfl
  | succ m ih =>
    intro A n c l hm hl
    by_cases h0 : n = 0
    · subst h0; rw [chunkBs_zero, piecesB, dif_pos hl]; rfl
    · rw [chunkBs_pos A c l h0, piecesB, dif_neg (by omega), List.map_cons]
      rw [ih _ _ _ _ (by omega) (by simp; omega)]
      have h1 : l.take (min n 4096) = l.take 4096 := by
        rcases Nat.le_total n 4096 with h | h
        · rw [Nat.min_eq_left h, List.take_of_length_le (by omega), List.take_of_length_le (by omega)]
        · rw [Nat.min_eq_right h]
      have h2 : l.drop (min n 4096) = l.drop 4096 := by
        rcases Nat.le_total n 4096 with h | h
        · rw [Nat.min_eq_left h, List.drop_eq_nil_of_le (by omega), List.drop_eq_nil_of_le (by omega)]
        · rw [Nat.min_eq_right h]
      simp only [h1, h2]

/-! the ends of a function with a range over a function, its result in a cell -/
section
variable {P : Program} {F : Fence} {n : Nat}
theorem marks_ret {fn : Func} {R : Ending → World → Prop} {a : Act} {w : World} {v : Value} (hv : (results fn a.tmps).run P w = .ok v w) (hd : a.defers = []) (h : R (.returned v) w) : bodyPostM F n P fn R .ret a w := by
  show LeavesInM F n P fn a.tmps R a.defers .returning w
  rw [hd]
  exact ⟨v, hv, h⟩

theorem marks_coll {fn : Func} {R : Ending → World → Prop} {a : Act} {w : World} {v : Value} {K : Nat} (hd : a.defers = [{ target := .collected K, args := #[] }]) (hK : w.heap[K]? = some (.deferred (some [])))
    (hv : (results fn a.tmps).run P (w.putObj K (.deferred none)) = .ok v (w.putObj K (.deferred none))) (h : R (.returned v) (w.putObj K (.deferred none))) : bodyPostM F n P fn R .ret a w := by
  show LeavesInM F n P fn a.tmps R a.defers .returning w
  rw [hd]
  exact ⟨by simp, .inl ⟨_, _, rfl, run_takeDeferred hK, v, hv, h⟩⟩

theorem results_i64cell {fn : Func} {p : Tmp} {ty : TypeId} (h : fn.results = #[.cell p ty]) (tmps : Array Value) (w : World) (g : Nat) (v : Value)
    (hp : tmps.getD p undef = .pointer (some ⟨g, 0, none⟩)) (hg : w.cell? ⟨g, 0, none⟩ = some v) (hu : P.underlying ty = some (.int .i64)) :
    (results fn tmps).run P w = .ok v w := by
  have hp' : tmps[p]?.getD undef = .pointer (some ⟨g, 0, none⟩) := by simpa using hp
  have hagg : (isAgg ty).run P w = .ok false w := by
    unfold isAgg
    rw [Sem.run_bind, run_underlying hu w]
    rfl
  simp [results, h, hp', asAddr, loadVar, Sem.run_bind, hagg, hg, Result.andThen]
end

end Go.Proofs.YtdpjnpjmokncdaaGreatDoor
