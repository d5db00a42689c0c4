/- A range over a function whose iterator hands out a known row of values and may write blocks of its own (T) between two rounds. No program. -/
import Derived.Test.YtdpjnpjmokncdaaGreatDoorB01
import Derived.RangeFuncNested
import Derived.RangeFuncBound
import Derived.RangeFuncCalls
import Derived.RangeFuncLeaves
import Derived.OwnWalkIn
import Derived.TacticsInMore
import Derived.LoopNIn
import Derived.LoopIn
namespace Go.Proofs.YtdpjnpjmokncdaaGreatDoor
open Go.RowKit
variable {F : Fence} {n : Nat} {P : Program}

/-- the blocks of T lie as they lay. -/
structure KeepT (T : Nat → Prop) (W W' : World) : Prop where
  size : W.heap.size ≤ W'.heap.size
  same : ∀ k, k < W.heap.size → T k → W'.heap[k]? = W.heap[k]?
theorem KeepT.refl (T : Nat → Prop) (W : World) : KeepT T W W := ⟨Nat.le_refl _, fun _ _ _ => rfl⟩
theorem KeepT.trans {T : Nat → Prop} {A B C : World} (h : KeepT T A B) (k : KeepT T B C) : KeepT T A C :=
  ⟨Nat.le_trans h.size k.size, fun i hi ht => (k.same i (Nat.lt_of_lt_of_le hi h.size) ht).trans (h.same i hi ht)⟩
theorem KeepT.mono {T T' : Nat → Prop} {A B : World} (h : KeepT T A B) (hT : ∀ k, T' k → T k) : KeepT T' A B := ⟨h.size, fun k hk ht => h.same k hk (hT k ht)⟩
theorem KeepT.of_mod {T S : Nat → Prop} {A B : World} (h : Mod S A B) (hT : ∀ k, T k → ¬ S k) : KeepT T A B := ⟨h.size, fun k hk ht => h.block k hk (hT k ht)⟩

/-- The iterator's contract: it hands out xs, one after the other, as long as it is told to go on. -/
def SeqT {α : Type} (F : Fence) (n : Nat) (P : Program) (g : Nat) (lb : Array Value) (enc : α → Value) (T : Nat → Prop) (xs : List α) (w : World) : Prop :=
  ∀ (l : Nat) (J Jx : List α → World → Prop) (W : World), KeepT T w W → (∀ pre A B, J pre A → Mod T A B → J pre B) → (∀ pre A B, Jx pre A → Mod T A B → Jx pre B) →
    (∀ pre x A, pre ++ [x] <+: xs → J pre A → YieldAt F (n - 1) P l #[enc x] A fun e A' => (e = .returned (.bool true) ∧ J (pre ++ [x]) A' ∧ KeepT T A A') ∨ (e = .returned (.bool false) ∧ Jx (pre ++ [x]) A')) →
    J [] W → CallsIn F n P g (#[.func (.yield l) #[] #[]] ++ lb) W fun e W' => (∃ v, e = .returned v) ∧ (J xs W' ∨ ∃ pre, pre <+: xs ∧ Jx pre W')

/-- the blocks that a loop's body must leave alone: the iterator's, and the two of the loop's book-keeping. -/
def LoopS (T : Nat → Prop) (B : Nat) : Nat → Prop := fun k => T k ∨ k = B ∨ k = B + 1

def bodyPostT {α : Type} (T : Nat → Prop) (B : Nat) (I : List α → World → Prop) (Ix : Code → List α → World → Prop) (xs : List α) (W : World) : Exit → Act → World → Prop
  | .normal, _, W' => KeepT (LoopS T B) W W' ∧ I xs W'
  | .ret, _, W' => KeepT (LoopS T B) W W' ∧ Ix .ret xs W'
  | .exit id, _, W' => KeepT (LoopS T B) W W' ∧ Ix (.exit id) xs W'
  | .goto t, _, W' => KeepT (LoopS T B) W W' ∧ Ix (.goto t) xs W'
  | .panic _, _, _ => False
  | .outgrown, _, _ => False

theorem mod_putObj {S : Nat → Prop} (W : World) (l : Nat) (o : Obj) (hl : S l) : Mod S W (W.putObj l o) :=
  ⟨rfl, rfl, rfl, by simp, fun k _ hk => World.putObj_heap_other (fun e => hk (by rw [e]; exact hl))⟩

theorem wpIn_rangeT {α : Type} {g : Operand} {p : Tmp} {assign body : Code} {Q : Exit → Act → World → Prop} {a : Act} {w : World}
    (hro : F.round = none) (h1 : 1 ≤ n) {gf : Nat} {lb : Array Value} (hg : a.eval g = .func (.func gf) #[] lb) (hFg : F.fn gf) (eg : ∀ args w, (callFunc gf args).run P w = .ok (.enter gf args) w)
    {enc : α → Value} {T : Nat → Prop} {xs : List α} (hseq : SeqT F (n - 1) P gf lb enc T xs w) (hT : ∀ k, T k → k < w.heap.size)
    (I : List α → World → Prop) (Ix : Code → List α → World → Prop) (hI : ∀ pre A B, I pre A → Mod (LoopS T w.heap.size) A B → I pre B) (hIx : ∀ c pre A B, Ix c pre A → Mod (LoopS T w.heap.size) A B → Ix c pre B) (h0 : I [] w)
    (a₁ : α → Act)
    (hassign : ∀ (l : Nat) (x : α) (W : World) (K : Act → World → Prop), K (a₁ x) W →
      assign.wpIn (F.inRound l) (n - 1 - 1) P (Exit.then K (fun _ _ _ => False)) { tmps := ((#[p] : Array Tmp).zip #[enc x]).foldl (fun t (p, v) => t.setIfInBounds p v) a.tmps, defers := [] } W)
    (hbody : ∀ (l : Nat) (pre : List α) (x : α) (W : World), pre ++ [x] <+: xs → w.heap.size + 1 < W.heap.size → I pre W → body.wpIn (F.inRound l) (n - 1 - 1) P (bodyPostT T w.heap.size I Ix (pre ++ [x]) W) (a₁ x) W)
    (hdone : ∀ (W : World), I xs W → W.heap[w.heap.size]? = some (.deferred (some [])) → Q .normal { a with defers := { target := .collected w.heap.size, args := #[] } :: a.defers } W)
    (hstop : ∀ (c : Code) (pre : List α) (W : World), pre <+: xs → Ix c pre W → W.heap[w.heap.size]? = some (.deferred (some [])) → c.wpIn F n P Q { a with defers := { target := .collected w.heap.size, args := #[] } :: a.defers } W) :
    (Code.rangeFunc g #[p] assign body).wpIn F n P Q a w := by
  refine wpIn_rangeFunc ?_
  intro fn hfn
  rw [hro]
  obtain ⟨rec, hrec⟩ : ∃ rec : LoopState → Option Code → Loop, rec = fun st pe => { state := st, pending := pe, fn, tmps := a.tmps, params := #[p], assign, body, defers := w.heap.size } := ⟨_, rfl⟩
  obtain ⟨W1, hW1⟩ : ∃ W1, (w.alloc (.deferred (some []))).alloc (.loop (rec .ready none)) = W1 := ⟨_, rfl⟩
  have hL1 : W1.heap[w.heap.size + 1]? = some (.loop (rec .ready none)) := by
    rw [← hW1]; have := World.alloc_heap_new (w.alloc (.deferred (some []))) (.loop (rec .ready none)); rwa [World.size_alloc] at this
  have hK1 : W1.heap[w.heap.size]? = some (.deferred (some [])) := by
    rw [← hW1]; exact (Below.heap_alloc _ _ _ (by simp)).trans (World.alloc_heap_new w _)
  have hm1 : ∀ S : Nat → Prop, Mod S w W1 := fun S => by rw [← hW1]; exact ((Mod.refl S w).alloc _).alloc _
  have hI1 : I [] W1 := hI _ _ _ h0 (hm1 _)
  refine ⟨w.heap.size + 1, [{ target := .collected w.heap.size, args := #[] }], W1, { target := .fn (.func gf) lb, args := #[.func (.yield (w.heap.size + 1)) #[] #[]] }, W1, gf,
    #[.func (.yield (w.heap.size + 1)) #[] #[]] ++ lb, W1, ?_, ?_, ?_, ?_, fun _ => h1, ?_⟩
  · rw [← hW1, hrec]; exact run_enterLoop_outer _ _ _ _ _
  · simp only [resolve, hg]
    simp [go_sem]
  · intro f' hf'; simp [Target.leads] at hf'; subst hf'; exact hFg
  · simp [invoke, go_sem, eg]
  · have hT' : ∀ k, T k → LoopS T w.heap.size k := fun k hk => .inl hk
    have hnB : ¬ T w.heap.size := fun h => by have := hT _ h; omega
    have hnL : ¬ T (w.heap.size + 1) := fun h => by have := hT _ h; omega
    refine (hseq (w.heap.size + 1)
      (fun pre W => I pre W ∧ W.heap[w.heap.size + 1]? = some (.loop (rec .ready none)) ∧ W.heap[w.heap.size]? = some (.deferred (some [])))
      (fun pre W => ∃ c, Ix c pre W ∧ W.heap[w.heap.size + 1]? = some (.loop (rec .done (some c))) ∧ W.heap[w.heap.size]? = some (.deferred (some [])))
      W1 (KeepT.of_mod (hm1 Non) fun _ _ h => h)
      (fun s A B hs hm => ⟨hI _ _ _ hs.1 (hm.mono hT'), (hm.block _ (Array.getElem?_eq_some_iff.1 hs.2.1).1 hnL).trans hs.2.1, (hm.block _ (Array.getElem?_eq_some_iff.1 hs.2.2).1 hnB).trans hs.2.2⟩)
      (fun s A B hs hm => by
        obtain ⟨c, hc, hl, hk⟩ := hs
        exact ⟨c, hIx _ _ _ _ hc (hm.mono hT'), (hm.block _ (Array.getElem?_eq_some_iff.1 hl).1 hnL).trans hl, (hm.block _ (Array.getElem?_eq_some_iff.1 hk).1 hnB).trans hk⟩)
      ?_ ⟨hI1, hL1, hK1⟩).mono ?_
    · rintro pre x W hpre ⟨hi, hl, hk⟩
      have hlt : w.heap.size + 1 < W.heap.size := (Array.getElem?_eq_some_iff.1 hl).1
      have hy := run_yield (P := P) (args := #[enc x]) hl (by rw [hrec]; rfl)
      rw [hrec] at hy
      refine ⟨fn, _, assign, body, hy, roundIn_of_wpIn hfn ?_⟩
      clear hy
      have hasg := hassign (w.heap.size + 1) x W (fun a₁' w₁ => ∃ w₂, (Instr.beginRound (w.heap.size + 1)).run P w₁ = .ok () w₂ ∧ body.wpIn (F.inRound (w.heap.size + 1)) (n - 1 - 1) P (roundPost P (w.heap.size + 1) fun e A' => (e = .returned (.bool true) ∧ (I (pre ++ [x]) A' ∧ A'.heap[w.heap.size + 1]? = some (.loop (rec .ready none)) ∧ A'.heap[w.heap.size]? = some (.deferred (some []))) ∧ KeepT T W A') ∨ (e = .returned (.bool false) ∧ ∃ c, Ix c (pre ++ [x]) A' ∧ A'.heap[w.heap.size + 1]? = some (.loop (rec .done (some c))) ∧ A'.heap[w.heap.size]? = some (.deferred (some [])))) a₁' w₂) ?_
      · exact hasg
      · refine ⟨_, run_beginRound hl (by rw [hrec]), ?_⟩
        have hmb : ∀ (V : World) (o : Obj), Mod (LoopS T w.heap.size) V (V.putObj (w.heap.size + 1) o) := fun V o => mod_putObj V _ o (.inr (.inr rfl))
        have hkb : ∀ (V : World) (o : Obj), KeepT T V (V.putObj (w.heap.size + 1) o) := fun V o => ⟨by simp, fun k _ ht => World.putObj_heap_other (fun e => hnL (by rw [← e]; exact ht))⟩
        have hl2 : (W.putObj (w.heap.size + 1) (.loop { rec .ready none with state := .busy })).heap[w.heap.size + 1]? = some (.loop { rec .ready none with state := .busy }) := World.putObj_heap_same hlt
        have hk2 : (W.putObj (w.heap.size + 1) (.loop { rec .ready none with state := .busy })).heap[w.heap.size]? = some (.deferred (some [])) := (World.putObj_heap_other (by omega)).trans hk
        refine wpIn_mono (hbody (w.heap.size + 1) pre x _ hpre (by simpa using hlt) (hI _ _ _ hi (hmb _ _))) ?_
        have fin : ∀ (jump : Option Code) (W3 : World), KeepT (LoopS T w.heap.size) (W.putObj (w.heap.size + 1) (.loop { rec .ready none with state := .busy })) W3 →
            (Instr.endRound (w.heap.size + 1) jump).run P W3 = .ok (.bool jump.isNone) (W3.putObj (w.heap.size + 1) (.loop (rec (if jump.isNone then .ready else .done) jump))) ∧
            (W3.putObj (w.heap.size + 1) (.loop (rec (if jump.isNone then .ready else .done) jump))).heap[w.heap.size + 1]? = some (.loop (rec (if jump.isNone then .ready else .done) jump)) ∧
            (W3.putObj (w.heap.size + 1) (.loop (rec (if jump.isNone then .ready else .done) jump))).heap[w.heap.size]? = some (.deferred (some [])) := fun jump W3 hk3 => by
          have hl3 := (hk3.same (w.heap.size + 1) (by simpa using hlt) (.inr (.inr rfl))).trans hl2
          have := run_endRound (P := P) jump hl3
          rw [hrec] at this ⊢
          exact ⟨this, World.putObj_heap_same (Array.getElem?_eq_some_iff.1 hl3).1, (World.putObj_heap_other (by omega)).trans ((hk3.same w.heap.size (by simp; omega) (.inr (.inl rfl))).trans hk2)⟩
        rintro e a3 W3 hp
        cases e with
        | normal =>
          obtain ⟨hk3, hi3⟩ := hp
          obtain ⟨hr, hl4, hk4⟩ := fin none W3 hk3
          exact ⟨_, _, hr, .inl ⟨rfl, ⟨hI _ _ _ hi3 (hmb _ _), hl4, hk4⟩, ((hkb _ _).trans (hk3.mono hT')).trans (hkb _ _)⟩⟩
        | ret =>
          obtain ⟨hk3, hi3⟩ := hp
          obtain ⟨hr, hl4, hk4⟩ := fin (some .ret) W3 hk3
          exact ⟨_, _, hr, .inr ⟨rfl, .ret, hIx _ _ _ _ hi3 (hmb _ _), hl4, hk4⟩⟩
        | exit id =>
          obtain ⟨hk3, hi3⟩ := hp
          obtain ⟨hr, hl4, hk4⟩ := fin (some (.exit id)) W3 hk3
          exact ⟨_, _, hr, .inr ⟨rfl, .exit id, hIx _ _ _ _ hi3 (hmb _ _), hl4, hk4⟩⟩
        | goto t =>
          obtain ⟨hk3, hi3⟩ := hp
          obtain ⟨hr, hl4, hk4⟩ := fin (some (.goto t)) W3 hk3
          exact ⟨_, _, hr, .inr ⟨rfl, .goto t, hIx _ _ _ _ hi3 (hmb _ _), hl4, hk4⟩⟩
        | panic ch => exact hp.elim
        | outgrown => exact hp.elim
    · have hmb : ∀ (V : World) (o : Obj), Mod (LoopS T w.heap.size) V (V.putObj (w.heap.size + 1) o) := fun V o => mod_putObj V _ o (.inr (.inr rfl))
      rintro e W2 ⟨⟨v, rfl⟩, (⟨hi, hl, hk⟩ | ⟨pre, hSp, c, hi, hl, hk⟩)⟩
      · exact ⟨none, _, by have := run_endLoop (P := P) hl (by rw [hrec]; simp); rw [hrec] at this; exact this, hdone _ (hI _ _ _ hi (hmb _ _)) ((World.putObj_heap_other (by omega)).trans hk)⟩
      · exact ⟨some c, _, by have := run_endLoop (P := P) hl (by rw [hrec]; simp); rw [hrec] at this; exact this, hstop c pre _ hSp (hIx _ _ _ _ hi (hmb _ _)) ((World.putObj_heap_other (by omega)).trans hk)⟩

end Go.Proofs.YtdpjnpjmokncdaaGreatDoor
