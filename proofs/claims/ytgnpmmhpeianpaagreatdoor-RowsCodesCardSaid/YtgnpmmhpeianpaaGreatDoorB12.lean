/- A range over a function whose iterator hands out a known row of values and may write blocks of its own (T) between two rounds. No program. -/
import Derived.Test.YtgnpmmhpeianpaaGreatDoorB01
import Derived.RangeFuncNested
import Derived.RangeFuncBound
import Derived.RangeFuncCalls
import Derived.RangeFuncLeaves
import Derived.OwnWalkIn
import Derived.TacticsInMore
import Derived.LoopNIn
import Derived.LoopIn
import Derived.Shelf.RegionOpen
import Derived.Laws.ResultCell
import Derived.Test.YtgnpmmhpeianpaaGreatDoorB06
import Derived.Sort.QuietIn
namespace Go.Proofs.YtgnpmmhpeianpaaGreatDoor
open Go.RowKit
variable {F : Fence} {n : Nat} {P : Program}

/-- the blocks of T lie as they lay. -/
structure KeepT (T : Nat → Prop) (W W' : World) : Prop where
  size : W.heap.size ≤ W'.heap.size
  same : ∀ k, k < W.heap.size → T k → W'.heap[k]? = W.heap[k]?
theorem KeepT.refl (T : Nat → Prop) (W : World) : KeepT T W W := ⟨Nat.le_refl _, fun _ _ _ => rfl⟩
theorem KeepT.trans {T : Nat → Prop} {A B C : World} (h : KeepT T A B) (k : KeepT T B C) : KeepT T A C :=
  ⟨Nat.le_trans h.size k.size, fun i hi ht => (k.same i (Nat.lt_of_lt_of_le hi h.size) ht).trans (h.same i hi ht)⟩
theorem KeepT.mono {T T' : Nat → Prop} {A B : World} (h : KeepT T A B) (hT : ∀ k, T' k → T k) : KeepT T' A B := ⟨h.size, fun k hk ht => h.same k hk (hT k ht)⟩
theorem KeepT.of_mod {T S : Nat → Prop} {A B : World} (h : Mod S A B) (hT : ∀ k, T k → ¬ S k) : KeepT T A B := ⟨h.size, fun k hk ht => h.block k hk (hT k ht)⟩

/-- The iterator's contract: it hands out xs, one after the other, as long as it is told to go on. -/
def SeqT {α : Type} (F : Fence) (n : Nat) (P : Program) (g : Nat) (lb : Array Value) (enc : α → Value) (T : Nat → Prop) (xs : List α) (w : World) : Prop :=
  ∀ (l : Nat) (J Jx : List α → World → Prop) (W : World), KeepT T w W → (∀ pre A B, J pre A → Mod T A B → J pre B) → (∀ pre A B, Jx pre A → Mod T A B → Jx pre B) →
    (∀ pre x A, pre ++ [x] <+: xs → J pre A → YieldAt F (n - 1) P l #[enc x] A fun e A' => (e = .returned (.bool true) ∧ J (pre ++ [x]) A' ∧ KeepT T A A') ∨ (e = .returned (.bool false) ∧ Jx (pre ++ [x]) A')) →
    J [] W → CallsIn F n P g (#[.func (.yield l) #[] #[]] ++ lb) W fun e W' => (∃ v, e = .returned v) ∧ (J xs W' ∨ ∃ pre, pre <+: xs ∧ Jx pre W')

/-- the blocks that a loop's body must leave alone: the iterator's, and the two of the loop's book-keeping. -/
def LoopS (T : Nat → Prop) (B : Nat) : Nat → Prop := fun k => T k ∨ k = B ∨ k = B + 1

def bodyPostT {α : Type} (T : Nat → Prop) (B : Nat) (I : List α → World → Prop) (Ix : Code → List α → World → Prop) (xs : List α) (W : World) : Exit → Act → World → Prop
  | .normal, _, W' => KeepT (LoopS T B) W W' ∧ I xs W'
  | .ret, _, W' => KeepT (LoopS T B) W W' ∧ Ix .ret xs W'
  | .exit id, _, W' => KeepT (LoopS T B) W W' ∧ Ix (.exit id) xs W'
  | .goto t, _, W' => KeepT (LoopS T B) W W' ∧ Ix (.goto t) xs W'
  | .panic _, _, _ => False
  | .outgrown, _, _ => False

theorem mod_putObj {S : Nat → Prop} (W : World) (l : Nat) (o : Obj) (hl : S l) : Mod S W (W.putObj l o) :=
  ⟨rfl, rfl, rfl, by simp, fun k _ hk => World.putObj_heap_other (fun e => hk (by rw [e]; exact hl))⟩

theorem wpIn_rangeT {α : Type} {g : Operand} {p : Tmp} {assign body : Code} {Q : Exit → Act → World → Prop} {a : Act} {w : World}
    (hro : F.round = none) (h1 : 1 ≤ n) {gf : Nat} {lb : Array Value} (hg : a.eval g = .func (.func gf) #[] lb) (hFg : F.fn gf) (eg : ∀ args w, (callFunc gf args).run P w = .ok (.enter gf args) w)
    {enc : α → Value} {T : Nat → Prop} {xs : List α} (hseq : SeqT F (n - 1) P gf lb enc T xs w) (hT : ∀ k, T k → k < w.heap.size)
    (I : List α → World → Prop) (Ix : Code → List α → World → Prop) (hI : ∀ pre A B, I pre A → Mod (LoopS T w.heap.size) A B → I pre B) (hIx : ∀ c pre A B, Ix c pre A → Mod (LoopS T w.heap.size) A B → Ix c pre B) (h0 : I [] w)
    (a₁ : α → Act)
    (hassign : ∀ (l : Nat) (x : α) (W : World) (K : Act → World → Prop), K (a₁ x) W →
      assign.wpIn (F.inRound l) (n - 1 - 1) P (Exit.then K (fun _ _ _ => False)) { tmps := ((#[p] : Array Tmp).zip #[enc x]).foldl (fun t (p, v) => t.setIfInBounds p v) a.tmps, defers := [] } W)
    (hbody : ∀ (l : Nat) (pre : List α) (x : α) (W : World), pre ++ [x] <+: xs → w.heap.size + 1 < W.heap.size → I pre W → body.wpIn (F.inRound l) (n - 1 - 1) P (bodyPostT T w.heap.size I Ix (pre ++ [x]) W) (a₁ x) W)
    (hdone : ∀ (W : World), I xs W → W.heap[w.heap.size]? = some (.deferred (some [])) → Q .normal { a with defers := { target := .collected w.heap.size, args := #[] } :: a.defers } W)
    (hstop : ∀ (c : Code) (pre : List α) (W : World), pre <+: xs → Ix c pre W → W.heap[w.heap.size]? = some (.deferred (some [])) → c.wpIn F n P Q { a with defers := { target := .collected w.heap.size, args := #[] } :: a.defers } W) :
    (Code.rangeFunc g #[p] assign body).wpIn F n P Q a w := by
  refine wpIn_rangeFunc ?_
  intro fn hfn
  rw [hro]
  obtain ⟨rec, hrec⟩ : ∃ rec : LoopState → Option Code → Loop, rec = fun st pe => { state := st, pending := pe, fn, tmps := a.tmps, params := #[p], assign, body, defers := w.heap.size } := ⟨_, rfl⟩
  obtain ⟨W1, hW1⟩ : ∃ W1, (w.alloc (.deferred (some []))).alloc (.loop (rec .ready none)) = W1 := ⟨_, rfl⟩
  have hL1 : W1.heap[w.heap.size + 1]? = some (.loop (rec .ready none)) := by
    rw [← hW1]; have := World.alloc_heap_new (w.alloc (.deferred (some []))) (.loop (rec .ready none)); rwa [World.size_alloc] at this
  have hK1 : W1.heap[w.heap.size]? = some (.deferred (some [])) := by
    rw [← hW1]; exact (Below.heap_alloc _ _ _ (by simp)).trans (World.alloc_heap_new w _)
  have hm1 : ∀ S : Nat → Prop, Mod S w W1 := fun S => by rw [← hW1]; exact ((Mod.refl S w).alloc _).alloc _
  have hI1 : I [] W1 := hI _ _ _ h0 (hm1 _)
  refine ⟨w.heap.size + 1, [{ target := .collected w.heap.size, args := #[] }], W1, { target := .fn (.func gf) lb, args := #[.func (.yield (w.heap.size + 1)) #[] #[]] }, W1, gf,
    #[.func (.yield (w.heap.size + 1)) #[] #[]] ++ lb, W1, ?_, ?_, ?_, ?_, fun _ => h1, ?_⟩
  · rw [← hW1, hrec]; exact run_enterLoop_outer _ _ _ _ _
  · simp only [resolve, hg]
    simp [go_sem]
  · intro f' hf'; simp [Target.leads] at hf'; subst hf'; exact hFg
  · simp [invoke, go_sem, eg]
  · have hT' : ∀ k, T k → LoopS T w.heap.size k := fun k hk => .inl hk
    have hnB : ¬ T w.heap.size := fun h => by have := hT _ h; omega
    have hnL : ¬ T (w.heap.size + 1) := fun h => by have := hT _ h; omega
    refine (hseq (w.heap.size + 1)
      (fun pre W => I pre W ∧ W.heap[w.heap.size + 1]? = some (.loop (rec .ready none)) ∧ W.heap[w.heap.size]? = some (.deferred (some [])))
      (fun pre W => ∃ c, Ix c pre W ∧ W.heap[w.heap.size + 1]? = some (.loop (rec .done (some c))) ∧ W.heap[w.heap.size]? = some (.deferred (some [])))
      W1 (KeepT.of_mod (hm1 Non) fun _ _ h => h)
      (fun s A B hs hm => ⟨hI _ _ _ hs.1 (hm.mono hT'), (hm.block _ (Array.getElem?_eq_some_iff.1 hs.2.1).1 hnL).trans hs.2.1, (hm.block _ (Array.getElem?_eq_some_iff.1 hs.2.2).1 hnB).trans hs.2.2⟩)
      (fun s A B hs hm => by
        obtain ⟨c, hc, hl, hk⟩ := hs
        exact ⟨c, hIx _ _ _ _ hc (hm.mono hT'), (hm.block _ (Array.getElem?_eq_some_iff.1 hl).1 hnL).trans hl, (hm.block _ (Array.getElem?_eq_some_iff.1 hk).1 hnB).trans hk⟩)
      ?_ ⟨hI1, hL1, hK1⟩).mono ?_
    · rintro pre x W hpre ⟨hi, hl, hk⟩
      have hlt : w.heap.size + 1 < W.heap.size := (Array.getElem?_eq_some_iff.1 hl).1
      have hy := run_yield (P := P) (args := #[enc x]) hl (by rw [hrec]; rfl)
      rw [hrec] at hy
      refine ⟨fn, _, assign, body, hy, roundIn_of_wpIn hfn ?_⟩
      clear hy
      have hasg := hassign (w.heap.size + 1) x W (fun a₁' w₁ => ∃ w₂, (Instr.beginRound (w.heap.size + 1)).run P w₁ = .ok () w₂ ∧ body.wpIn (F.inRound (w.heap.size + 1)) (n - 1 - 1) P (roundPost P (w.heap.size + 1) fun e A' => (e = .returned (.bool true) ∧ (I (pre ++ [x]) A' ∧ A'.heap[w.heap.size + 1]? = some (.loop (rec .ready none)) ∧ A'.heap[w.heap.size]? = some (.deferred (some []))) ∧ KeepT T W A') ∨ (e = .returned (.bool false) ∧ ∃ c, Ix c (pre ++ [x]) A' ∧ A'.heap[w.heap.size + 1]? = some (.loop (rec .done (some c))) ∧ A'.heap[w.heap.size]? = some (.deferred (some [])))) a₁' w₂) ?_
      · exact hasg
      · refine ⟨_, run_beginRound hl (by rw [hrec]), ?_⟩
        have hmb : ∀ (V : World) (o : Obj), Mod (LoopS T w.heap.size) V (V.putObj (w.heap.size + 1) o) := fun V o => mod_putObj V _ o (.inr (.inr rfl))
        have hkb : ∀ (V : World) (o : Obj), KeepT T V (V.putObj (w.heap.size + 1) o) := fun V o => ⟨by simp, fun k _ ht => World.putObj_heap_other (fun e => hnL (by rw [← e]; exact ht))⟩
        have hl2 : (W.putObj (w.heap.size + 1) (.loop { rec .ready none with state := .busy })).heap[w.heap.size + 1]? = some (.loop { rec .ready none with state := .busy }) := World.putObj_heap_same hlt
        have hk2 : (W.putObj (w.heap.size + 1) (.loop { rec .ready none with state := .busy })).heap[w.heap.size]? = some (.deferred (some [])) := (World.putObj_heap_other (by omega)).trans hk
        refine wpIn_mono (hbody (w.heap.size + 1) pre x _ hpre (by simpa using hlt) (hI _ _ _ hi (hmb _ _))) ?_
        have fin : ∀ (jump : Option Code) (W3 : World), KeepT (LoopS T w.heap.size) (W.putObj (w.heap.size + 1) (.loop { rec .ready none with state := .busy })) W3 →
            (Instr.endRound (w.heap.size + 1) jump).run P W3 = .ok (.bool jump.isNone) (W3.putObj (w.heap.size + 1) (.loop (rec (if jump.isNone then .ready else .done) jump))) ∧
            (W3.putObj (w.heap.size + 1) (.loop (rec (if jump.isNone then .ready else .done) jump))).heap[w.heap.size + 1]? = some (.loop (rec (if jump.isNone then .ready else .done) jump)) ∧
            (W3.putObj (w.heap.size + 1) (.loop (rec (if jump.isNone then .ready else .done) jump))).heap[w.heap.size]? = some (.deferred (some [])) := fun jump W3 hk3 => by
          have hl3 := (hk3.same (w.heap.size + 1) (by simpa using hlt) (.inr (.inr rfl))).trans hl2
          have := run_endRound (P := P) jump hl3
          rw [hrec] at this ⊢
          exact ⟨this, World.putObj_heap_same (Array.getElem?_eq_some_iff.1 hl3).1, (World.putObj_heap_other (by omega)).trans ((hk3.same w.heap.size (by simp; omega) (.inr (.inl rfl))).trans hk2)⟩
        rintro e a3 W3 hp
        cases e with
        | normal =>
          obtain ⟨hk3, hi3⟩ := hp
          obtain ⟨hr, hl4, hk4⟩ := fin none W3 hk3
          exact ⟨_, _, hr, .inl ⟨rfl, ⟨hI _ _ _ hi3 (hmb _ _), hl4, hk4⟩, ((hkb _ _).trans (hk3.mono hT')).trans (hkb _ _)⟩⟩
        | ret =>
          obtain ⟨hk3, hi3⟩ := hp
          obtain ⟨hr, hl4, hk4⟩ := fin (some .ret) W3 hk3
          exact ⟨_, _, hr, .inr ⟨rfl, .ret, hIx _ _ _ _ hi3 (hmb _ _), hl4, hk4⟩⟩
        | exit id =>
          obtain ⟨hk3, hi3⟩ := hp
          obtain ⟨hr, hl4, hk4⟩ := fin (some (.exit id)) W3 hk3
          exact ⟨_, _, hr, .inr ⟨rfl, .exit id, hIx _ _ _ _ hi3 (hmb _ _), hl4, hk4⟩⟩
        | goto t =>
          obtain ⟨hk3, hi3⟩ := hp
          obtain ⟨hr, hl4, hk4⟩ := fin (some (.goto t)) W3 hk3
          exact ⟨_, _, hr, .inr ⟨rfl, .goto t, hIx _ _ _ _ hi3 (hmb _ _), hl4, hk4⟩⟩
        | panic ch => exact hp.elim
        | outgrown => exact hp.elim
    · have hmb : ∀ (V : World) (o : Obj), Mod (LoopS T w.heap.size) V (V.putObj (w.heap.size + 1) o) := fun V o => mod_putObj V _ o (.inr (.inr rfl))
      rintro e W2 ⟨⟨v, rfl⟩, (⟨hi, hl, hk⟩ | ⟨pre, hSp, c, hi, hl, hk⟩)⟩
      · exact ⟨none, _, by have := run_endLoop (P := P) hl (by rw [hrec]; simp); rw [hrec] at this; exact this, hdone _ (hI _ _ _ hi (hmb _ _)) ((World.putObj_heap_other (by omega)).trans hk)⟩
      · exact ⟨some c, _, by have := run_endLoop (P := P) hl (by rw [hrec]; simp); rw [hrec] at this; exact this, hstop c pre _ hSp (hIx _ _ _ _ hi (hmb _ _)) ((World.putObj_heap_other (by omega)).trans hk)⟩

end Go.Proofs.YtgnpmmhpeianpaaGreatDoor

/- The ends of a function with a range over a function; results in a cell. -/
namespace Go.Proofs.YtgnpmmhpeianpaaGreatDoor
open Go.RowKit
attribute [local go_sem] Oper.semAt_some

/-! the ends of a function with a range over a function, its result in a cell -/
section
variable {P : Program} {F : Fence} {n : Nat}
theorem marks_ret {fn : Func} {R : Ending → World → Prop} {a : Act} {w : World} {v : Value} (hv : (results fn a.tmps).run P w = .ok v w) (hd : a.defers = []) (h : R (.returned v) w) : bodyPostM F n P fn R .ret a w := by
  show LeavesInM F n P fn a.tmps R a.defers .returning w
  rw [hd]
  exact ⟨v, hv, h⟩

theorem marks_coll {fn : Func} {R : Ending → World → Prop} {a : Act} {w : World} {v : Value} {K : Nat} (hd : a.defers = [{ target := .collected K, args := #[] }]) (hK : w.heap[K]? = some (.deferred (some [])))
    (hv : (results fn a.tmps).run P (w.putObj K (.deferred none)) = .ok v (w.putObj K (.deferred none))) (h : R (.returned v) (w.putObj K (.deferred none))) : bodyPostM F n P fn R .ret a w := by
  show LeavesInM F n P fn a.tmps R a.defers .returning w
  rw [hd]
  exact ⟨by simp, .inl ⟨_, _, rfl, run_takeDeferred hK, v, hv, h⟩⟩

theorem results_i64cell {fn : Func} {p : Tmp} {ty : TypeId} (h : fn.results = #[.cell p ty]) (tmps : Array Value) (w : World) (g : Nat) (v : Value)
    (hp : tmps.getD p undef = .pointer (some ⟨g, 0, none⟩)) (hg : w.cell? ⟨g, 0, none⟩ = some v) (hu : P.underlying ty = some (.int .i64)) :
    (results fn tmps).run P w = .ok v w := by
  have hp' : tmps[p]?.getD undef = .pointer (some ⟨g, 0, none⟩) := by simpa using hp
  have hagg : (isAgg ty).run P w = .ok false w := by
    unfold isAgg
    rw [Sem.run_bind, run_underlying hu w]
    rfl
  simp [results, h, hp', asAddr, loadVar, Sem.run_bind, hagg, hg, Result.andThen]
end

end Go.Proofs.YtgnpmmhpeianpaaGreatDoor

/- slices.Chunk at 32 and its iterator. -/
namespace Go.Proofs.YtgnpmmhpeianpaaGreatDoor
open Go.RowKit

/-- a list of bytes cut into pieces of at most 32. -/
def piecesH (l : List UInt8) : List (List UInt8) := if _h : l.length = 0 then [] else l.take 32 :: piecesH (l.drop 32)
termination_by l.length
decreasing_by simp only [List.length_drop]; omega

theorem piecesH_len (l : List UInt8) : 32 * (piecesH l).length ≤ l.length + 31 := by
  rw [piecesH]
  split
  · simp
  · rename_i h
    have := piecesH_len (l.drop 32)
    rw [List.length_drop] at this
    rw [List.length_cons]
    by_cases h32 : 32 ≤ l.length
    · omega
    · have h0 : (piecesH (l.drop 32)).length = 0 := by
        rw [piecesH, dif_pos (by rw [List.length_drop]; omega)]; rfl
      omega
termination_by l.length
decreasing_by simp only [List.length_drop]; omega

/-- the pieces that slices.Chunk tells from index i on; l: the bytes from there. -/
def chunkH (A : Option Addr) (n i : Nat) (l : List UInt8) : List Bs :=
  if _h : i < n then ⟨A.map (·.add i), min 32 (n - i), min 32 (n - i), l.take 32⟩ :: chunkH A n (i + 32) (l.drop 32) else []
termination_by n - i
decreasing_by omega

theorem chunkH_end (A : Option Addr) {n i : Nat} (l : List UInt8) (h : ¬ i < n) : chunkH A n i l = [] := by rw [chunkH, dif_neg h]
theorem chunkH_pos (A : Option Addr) {n i : Nat} (l : List UInt8) (h : i < n) : chunkH A n i l = ⟨A.map (·.add i), min 32 (n - i), min 32 (n - i), l.take 32⟩ :: chunkH A n (i + 32) (l.drop 32) := by rw [chunkH, dif_pos h]

theorem chunkH_l (m : Nat) : ∀ (A : Option Addr) (n i : Nat) (l : List UInt8), n - i ≤ m → l.length = n - i → (chunkH A n i l).map (·.l) = piecesH l := by
  induction m with
  | zero =>
    intro A n i l hm hl
    rw [chunkH_end A l (by omega), piecesH, dif_pos (by omega)]
    rfl
  | succ m ih =>
    intro A n i l hm hl
    by_cases h0 : i < n
    · rw [chunkH_pos A l h0, piecesH, dif_neg (by omega), List.map_cons, ih _ _ _ _ (by omega) (by rw [List.length_drop]; omega)]
    · rw [chunkH_end A l h0, piecesH, dif_pos (by omega)]
      rfl
theorem blkOf_addH (A : Option Addr) (i : Nat) : blkOf (A.map (·.add i)) = blkOf A := by
  cases A with
  | none => rfl
  | some a =>
    simp only [blkOf, Option.map_some, Addr.add]
    split <;> rfl
theorem chunkH_is (m : Nat) : ∀ (A : Option Addr) (n i : Nat) (L : List UInt8) (w : World), n - i ≤ m → Rd w A n (by8 L) →
    ∀ x ∈ chunkH A n i (L.drop i), Rd w x.A x.n (by8 x.l) ∧ x.n ≤ 32 ∧ x.n ≤ x.c ∧ x.c ≤ 32 ∧ x.n ≠ 0 ∧ blkOf x.A = blkOf A := by
  induction m with
  | zero =>
    intro A n i L w hm h x hx
    rw [chunkH_end A _ (by omega)] at hx
    cases hx
  | succ m ih =>
    intro A n i L w hm h x hx
    by_cases h0 : i < n
    · rw [chunkH_pos A _ h0] at hx
      rcases List.mem_cons.1 hx with rfl | hx
      · have hcut := h.cut (k := i) (cap := n) (by omega) (Nat.le_refl _)
        rw [if_neg (by omega), ← by8_drop] at hcut
        have htk := hcut.take (k := min 32 (n - i)) (by omega)
        rw [← by8_take] at htk
        have hl : L.length = n := by simpa using h.1
        have he : (L.drop i).take (min 32 (n - i)) = (L.drop i).take 32 := by
          rcases Nat.le_total 32 (n - i) with h1 | h1
          · rw [Nat.min_eq_left h1]
          · rw [Nat.min_eq_right h1, List.take_of_length_le (by rw [List.length_drop]; omega), List.take_of_length_le (by rw [List.length_drop]; omega)]
        rw [he] at htk
        refine ⟨htk, ?_, Nat.le_refl _, ?_, ?_, blkOf_addH A i⟩
        · simp only; omega
        · simp only; omega
        · simp only; omega
      · rw [List.drop_drop] at hx
        exact ih A n (i + 32) L w (by omega) h x hx
    · rw [chunkH_end A _ h0] at hx
      cases hx

set_option maxRecDepth 100000 in
set_option maxHeartbeats 400000 in
theorem chunkZ_any (A : Option Addr) (n c : Nat) (w : World) : Calls Tryz.prog 39 #[.slice A n c, .int .i64 32] w fun e w' =>
    e = .returned (.func (.func 65) #[] #[.pointer (some ⟨w.heap.size, 0, none⟩), .pointer (some ⟨w.heap.size + 1, 0, none⟩)]) ∧ (w.alloc (.cells #[.slice A n c] 27)).alloc (.cells #[.int .i64 32] 3) = w' := by
  go_enter Tryz.func39, Tryz.ntmps39
  go_wp2_with fail
  go_ret
  exact ⟨rfl, rfl⟩

/-- the index in the slot. -/
def idxH (v : Value) : Nat := match v with
  | .int _ i => i.toNat
  | _ => 0

set_option maxRecDepth 100000 in
set_option maxHeartbeats 2000000 in
theorem chunkZ_seq (n : Nat) (hn : 1 ≤ n) (b1 b2 : Nat) (A : Option Addr) (N c : Nat) (L : List UInt8) (w : World)
    (hb1 : Blk w b1 27 #[.slice A N c]) (hb2 : Blk w b2 3 #[.int .i64 32]) (hNc : N ≤ c) (_hcm : c ≤ 9223372036854775807) (hN : N ≤ 140737488355328) :
    SeqT Fence.wide n Tryz.prog 65 #[.pointer (some ⟨b1, 0, none⟩), .pointer (some ⟨b2, 0, none⟩)] Bs.val (fun k => k = b1 ∨ k = b2) (chunkH A N 0 L) w := by
  intro l J Jx W hk hJ hJx hY h0
  have hbW1 : Blk W b1 27 #[.slice A N c] := (hk.same b1 hb1.lt (.inl rfl)).trans hb1
  have hbW2 : Blk W b2 3 #[.int .i64 32] := (hk.same b2 hb2.lt (.inr rfl)).trans hb2
  refine callsIn_of_wp Tryz.func65 rfl trivial ?_ rfl
  simp only [Tryz.ntmps65, List.size_toArray, List.length_cons, List.length_nil, Nat.reduceAdd, Nat.reduceSub, Array.replicate_succ, Array.replicate_zero, List.push_toArray, List.append_toArray, List.nil_append, List.cons_append]
  gi_wp2
  gi_loopw [4] (fun v wr => ∃ (pre : List Bs) (i : Nat) (l' : List UInt8), v = .int .i64 i ∧ i ≤ N + 32 ∧ Blk wr b1 27 #[.slice A N c] ∧ Blk wr b2 3 #[.int .i64 32] ∧ Hid (chunkH A N 0 L = pre ++ chunkH A N i l') ∧ J pre wr) (fun v _ => N + 32 - idxH v)
  case atStart => exact ⟨[], 0, L, rfl, by omega, hbW1, hbW2, rfl, h0⟩
  case round =>
    obtain ⟨pre, i, l', rfl, hi, hbr1, hbr2, HX, hj⟩ := hrel
    have c1 : wr.cell? ⟨b1, 0, none⟩ = some (.slice A N c) := hbr1.cell 0
    have c2 : wr.cell? ⟨b2, 0, none⟩ = some (.int .i64 32) := hbr2.cell 0
    by_cases hz : i < N
    · have HX' := HX.out
      rw [chunkH_pos A l' hz] at HX'
      have hpre : pre ++ [(⟨A.map (·.add i), min 32 (N - i), min 32 (N - i), l'.take 32⟩ : Bs)] <+: chunkH A N 0 L := by
        rw [HX']
        exact ⟨_, by rw [List.append_assoc]; rfl⟩
      have key : ∃ k, k = min 32 (N - i) ∧ k ≤ N - i ∧ 1 ≤ k := ⟨_, rfl, by omega, by omega⟩
      obtain ⟨k, hk1, hk2, hk3⟩ := key
      rw [← hk1] at HX' hpre
      have HX2 : Hid (chunkH A N 0 L = (pre ++ [⟨A.map (·.add i), k, k, l'.take 32⟩]) ++ chunkH A N (i + 32) (l'.drop 32)) := by
        show chunkH A N 0 L = _
        rw [HX']; simp
      have hne : ¬ c = i := by omega
      have hmin : min (32 : Int) ((N - i : Nat) : Int) = (k : Int) := by omega
      have HMIN := Lib.hid hmin
      have HMIN2 : Hid ((if ((N - i : Nat) : Int) < 32 then ((N - i : Nat) : Int) else 32) = (k : Int)) := by
        show _ = _
        split <;> omega
      have hmx : Tryz.prog.follows .mixedOrders = true := by kernel_rfl
      clear HX' HX hk1 hmin
      gi_wp2
      gi_quiet (fail)
      first | rw [HMIN.out] | rw [HMIN2.out]
      obtain ⟨fn, tmps, assign, body, hy, hR⟩ := hY pre _ (wr.drewN nq) hpre (hJ _ _ _ hj ((Mod.refl _ wr).drewN nq))
      simp only [Bs.val] at hy
      gi_wp2
      all_goals
        refine hR.mono ?_
        rintro e W3 (⟨rfl, hj3, hk4⟩ | ⟨rfl, hx3⟩)
        · have hb13 : Blk W3 b1 27 #[.slice A N c] := (hk4.same b1 hbr1.lt (.inl rfl)).trans hbr1
          have hb23 : Blk W3 b2 3 #[.int .i64 32] := (hk4.same b2 hbr2.lt (.inr rfl)).trans hbr2
          have c13 : W3.cell? ⟨b1, 0, none⟩ = some (.slice A N c) := hb13.cell 0
          have c23 : W3.cell? ⟨b2, 0, none⟩ = some (.int .i64 32) := hb23.cell 0
          gi_wp2
          go_roundw
          case rel => exact ⟨_, i + 32, l'.drop 32, by go_num, by omega, hb13, hb23, HX2, hj3⟩
          case measure => simp [idxH]; omega
        · gi_wp2
          refine bodyPost_ret (results_none rfl _ _ _) rfl ?_
          exact ⟨⟨_, rfl⟩, .inr ⟨_, hpre, hx3⟩⟩
    · have HX' := HX.out
      rw [chunkH_end A l' hz, List.append_nil] at HX'
      have HXX := Lib.hid HX'
      clear HX'
      gi_wp2
      go_end0
      exact ⟨⟨_, rfl⟩, .inl (by rw [HXX.out]; exact hj)⟩

end Go.Proofs.YtgnpmmhpeianpaaGreatDoor
