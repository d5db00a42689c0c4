/- wal.Add: what it computes, and its early ends. -/
import Derived.Test.YtgdamcimpgapgaaGreatDoorM16
import Derived.Shelf.RegionOpen
import Derived.Laws.ResultCell
namespace Go.Proofs.YtgdamcimpgapgaaGreatDoor
open Go.RowKit
attribute [local go_sem] Oper.semAt_some

/-- the pieces of a frame appended one by one: the disk behind, and the first error. -/
def appStep (nm : ByteArray) (s : Dk × Int) (b : List UInt8) : Dk × Int := if s.2 = 0 then (appendD s.1 nm b, appendE s.1 nm b) else s
def appAll (nm : ByteArray) (D : Dk) (l : List (List UInt8)) : Dk × Int := l.foldl (appStep nm) (D, 0)
theorem appAll_snoc (nm : ByteArray) (D : Dk) (l : List (List UInt8)) (b : List UInt8) : appAll nm D (l ++ [b]) = appStep nm (appAll nm D l) b := by simp [appAll]
theorem appStep_stop {nm : ByteArray} {s : Dk × Int} (h : s.2 ≠ 0) : ∀ l : List (List UInt8), l.foldl (appStep nm) s = s
  | [] => rfl
  | b :: r => by rw [List.foldl_cons, show appStep nm s b = s by unfold appStep; rw [if_neg h]]; exact appStep_stop h r
theorem appAll_stop {nm : ByteArray} {D : Dk} {l k : List (List UInt8)} (hk : l <+: k) (h : (appAll nm D l).2 ≠ 0) : appAll nm D k = appAll nm D l := by
  obtain ⟨r, rfl⟩ := hk
  unfold appAll at *
  rw [List.foldl_append]
  exact appStep_stop h r
theorem appAll_ok {nm : ByteArray} {D : Dk} (ok : DkOk D) (l : List (List UInt8)) : DkOk (appAll nm D l).1 := by
  unfold appAll
  suffices ∀ s : Dk × Int, DkOk s.1 → DkOk (l.foldl (appStep nm) s).1 from this _ ok
  intro s hs
  induction l generalizing s with
  | nil => exact hs
  | cons b r ih =>
    rw [List.foldl_cons]
    refine ih _ ?_
    unfold appStep
    split
    · exact appendD_ok hs nm b
    · exact hs

/-- a list of bytes cut into pieces of at most 4096. -/
def piecesB (l : List UInt8) : List (List UInt8) := if _h : l.length = 0 then [] else l.take 4096 :: piecesB (l.drop 4096)
termination_by l.length
decreasing_by simp only [List.length_drop]; omega
theorem chunkBs_l (m : Nat) : ∀ (A : Option Addr) (n c : Nat) (l : List UInt8), n ≤ m → l.length = n → (chunkBs A n c l).map (·.l) = piecesB l := by
  induction m with
  | zero => intro A n c l hm hl; obtain rfl : n = 0 := by omega
            rw [chunkBs_zero, piecesB, dif_pos hl]; rfl
  | succ m ih =>
    intro A n c l hm hl
    by_cases h0 : n = 0
    · subst h0; rw [chunkBs_zero, piecesB, dif_pos hl]; rfl
    · rw [chunkBs_pos A c l h0, piecesB, dif_neg (by omega), List.map_cons]
      rw [ih _ _ _ _ (by omega) (by simp; omega)]
      have h1 : l.take (min n 4096) = l.take 4096 := by
        rcases Nat.le_total n 4096 with h | h
        · rw [Nat.min_eq_left h, List.take_of_length_le (by omega), List.take_of_length_le (by omega)]
        · rw [Nat.min_eq_right h]
      have h2 : l.drop (min n 4096) = l.drop 4096 := by
        rcases Nat.le_total n 4096 with h | h
        · rw [Nat.min_eq_left h, List.drop_eq_nil_of_le (by omega), List.drop_eq_nil_of_le (by omega)]
        · rw [Nat.min_eq_right h]
      simp only [h1, h2]

/-- what Add answers, and the disk behind it. -/
def addB (D : Dk) (n : Int) (b : List UInt8) : Dk × Int :=
  if 0 ≤ n ∧ n ≤ 1099511627776 ∧ b.length ≤ 1048576 then
    if D.off = true then (D, 5)
    else if D.n - D.used < needW D n b then (D, 4)
    else
      let s := appAll (nameW n) D (piecesB (frameB b))
      if s.2 = 0 then (syncD s.1 (nameW n), syncE s.1 (nameW n)) else s
  else (D, 1)

/-! the ends of a function with a range over a function, its result in a cell -/
section
variable {P : Program} {F : Fence} {n : Nat}
theorem marks_ret {fn : Func} {R : Ending → World → Prop} {a : Act} {w : World} {v : Value} (hv : (results fn a.tmps).run P w = .ok v w) (hd : a.defers = []) (h : R (.returned v) w) : bodyPostM F n P fn R .ret a w := by
  show LeavesInM F n P fn a.tmps R a.defers .returning w
  rw [hd]
  exact ⟨v, hv, h⟩
theorem marks_coll {fn : Func} {R : Ending → World → Prop} {a : Act} {w : World} {v : Value} {K : Nat} (hd : a.defers = [{ target := .collected K, args := #[] }]) (hK : w.heap[K]? = some (.deferred (some [])))
    (hv : (results fn a.tmps).run P (w.putObj K (.deferred none)) = .ok v (w.putObj K (.deferred none))) (h : R (.returned v) (w.putObj K (.deferred none))) : bodyPostM F n P fn R .ret a w := by
  show LeavesInM F n P fn a.tmps R a.defers .returning w
  rw [hd]
  exact ⟨by simp, .inl ⟨_, _, rfl, run_takeDeferred hK, v, hv, h⟩⟩
theorem results_i64cell {fn : Func} {p : Tmp} {ty : TypeId} (h : fn.results = #[.cell p ty]) (tmps : Array Value) (w : World) (g : Nat) (v : Value)
    (hp : tmps.getD p undef = .pointer (some ⟨g, 0, none⟩)) (hg : w.cell? ⟨g, 0, none⟩ = some v) (hu : P.underlying ty = some (.int .i64)) :
    (results fn tmps).run P w = .ok v w := by
  have hp' : tmps[p]?.getD undef = .pointer (some ⟨g, 0, none⟩) := by simpa using hp
  have hagg : (isAgg ty).run P w = .ok false w := by
    unfold isAgg
    rw [Sem.run_bind, run_underlying hu w]
    rfl
  simp [results, h, hp', asAddr, loadVar, Sem.run_bind, hagg, hg, Result.andThen]
end

set_option maxRecDepth 100000 in
set_option maxHeartbeats 1000000 in
theorem add_bad (F : Nat → Prop) (d : Nat) (D : Dk) (n : Int) (A : Option Addr) (m c : Nat) (w : World) (h : DiskIs w F d D) (ok : DkOk D)
    (hn : ¬ (0 ≤ n ∧ n ≤ 1099511627776) ∨ (0 ≤ n ∧ n ≤ 1099511627776) ∧ 1048576 < m) (hm : m ≤ 9223372036854775807) :
    Calls Tryz.prog 10 #[.pointer (some ⟨d, 0, none⟩), .int .i64 n, .slice A m c] w (DkPost F d D (.int .i64 1) w) := by
  have HH := Lib.hid h
  have HO := Lib.hid ok
  clear h ok
  refine (callsIn_wide (n := 6)).1 ?_
  refine callsIn_of_wp_marks Tryz.func10 rfl trivial ?_ rfl
  refine wpIn_wide.2 ?_
  simp only [Tryz.ntmps10, List.size_toArray, List.length_cons, List.length_nil, Nat.reduceAdd, Nat.reduceSub, Array.replicate_succ, Array.replicate_zero, List.push_toArray, List.append_toArray, List.nil_append, List.cons_append]
  go_wp2_with fail
  have hm0 : Mod Non w (((w.alloc (.cells #[.pointer (some ⟨d, 0, none⟩)] 24)).alloc (.cells #[.int .i64 n] 3)).alloc (.cells #[.int .i64 0] 25)) := (((Mod.refl Non w).alloc _).alloc _).alloc _
  have c3 : Blk (((w.alloc (.cells #[.pointer (some ⟨d, 0, none⟩)] 24)).alloc (.cells #[.int .i64 n] 3)).alloc (.cells #[.int .i64 0] 25)) w.heap.size 24 #[.pointer (some ⟨d, 0, none⟩)] := ((Blk.new _ _ _).alloc _).alloc _
  have c4 : Blk (((w.alloc (.cells #[.pointer (some ⟨d, 0, none⟩)] 24)).alloc (.cells #[.int .i64 n] 3)).alloc (.cells #[.int .i64 0] 25)) (w.heap.size + 1) 3 #[.int .i64 n] := by
    have := (Blk.new (w.alloc (.cells #[.pointer (some ⟨d, 0, none⟩)] 24)) 3 #[.int .i64 n]).alloc (.cells #[.int .i64 0] 25)
    rwa [World.size_alloc] at this
  have c6 : Blk (((w.alloc (.cells #[.pointer (some ⟨d, 0, none⟩)] 24)).alloc (.cells #[.int .i64 n] 3)).alloc (.cells #[.int .i64 0] 25)) (w.heap.size + 1 + 1) 25 #[.int .i64 0] := by
    have := Blk.new ((w.alloc (.cells #[.pointer (some ⟨d, 0, none⟩)] 24)).alloc (.cells #[.int .i64 n] 3)) 25 #[.int .i64 0]
    rwa [World.size_alloc, World.size_alloc] at this
  generalize (((w.alloc (.cells #[.pointer (some ⟨d, 0, none⟩)] 24)).alloc (.cells #[.int .i64 n] 3)).alloc (.cells #[.int .i64 0] 25)) = w0 at *
  refine (none_any F d D _ (HH.out.mod0 hm0) HO.out).mono ?_
  rintro e w1 ⟨rfl, hm1⟩
  have d3 : w1.cell? ⟨w.heap.size, 0, none⟩ = some (.pointer (some ⟨d, 0, none⟩)) := (c3.mod hm1 fun h => h).cell 0
  have d4 : w1.cell? ⟨w.heap.size + 1, 0, none⟩ = some (.int .i64 n) := (c4.mod hm1 fun h => h).cell 0
  have b6 := c6.mod hm1 fun h => h
  have d6 : w1.cell? ⟨w.heap.size + 1 + 1, 0, none⟩ = some (.int .i64 0) := b6.cell 0
  have f6 := b6.frozen 0
  have hmw := hm0.trans0 hm1
  have hlw : w.heap.size ≤ w1.heap.size := hmw.size
  have hfin : DkPost F d D (.int .i64 1) w (.returned (.int .i64 1)) (w1.setCell ⟨w.heap.size + 1 + 1, 0, none⟩ (.int .i64 1)) :=
    ⟨rfl, F, HH.out.mod0 (hmw.setCell (p := ⟨w.heap.size + 1 + 1, 0, none⟩) (.inr (by simp only; omega)) _), (hmw.setCell (p := ⟨w.heap.size + 1 + 1, 0, none⟩) (.inr (by simp only; omega)) _).non, fun k hk => .inl hk⟩
  have e6 : (w1.setCell ⟨w.heap.size + 1 + 1, 0, none⟩ (.int .i64 1)).cell? ⟨w.heap.size + 1 + 1, 0, none⟩ = some (.int .i64 1) := (b6.set_ 0 _).cell 0
  have HF := Lib.hid hfin
  have HE6 := Lib.hid e6
  clear hfin e6 hm0 hm1 c3 c4 c6 b6
  rcases hn with hn | ⟨hn, hm1⟩
  · go_wp2_with fail
    refine (right_no n _ (by omega)).mono ?_
    rintro e w2 ⟨rfl, rfl⟩
    go_wp2_with fail
    refine marks_ret (results_i64cell rfl _ _ (w.heap.size + 1 + 1) _ rfl HE6.out Tryz.underlying25) rfl HF.out
  · go_wp2_with fail
    refine (right_yes n _ (by omega) (by omega)).mono ?_
    rintro e w2 ⟨rfl, rfl⟩
    go_wp2_with fail
    refine marks_ret (results_i64cell rfl _ _ (w.heap.size + 1 + 1) _ rfl HE6.out Tryz.underlying25) rfl HF.out


set_option maxRecDepth 100000 in
set_option maxHeartbeats 2000000 in
theorem add_early (F : Nat → Prop) (d : Nat) (D : Dk) (n : Int) (A : Option Addr) (m c : Nat) (b : List UInt8) (w : World) (h : DiskIs w F d D) (ok : DkOk D) (g : Rd w A m (by8 b))
    (hn : 0 ≤ n ∧ n ≤ 1099511627776) (hm : m ≤ 1048576) (E : Int) (hE : D.off = true ∧ E = 5 ∨ D.off = false ∧ D.n - D.used < needW D n b ∧ E = 4) :
    Calls Tryz.prog 10 #[.pointer (some ⟨d, 0, none⟩), .int .i64 n, .slice A m c] w (DkPost F d D (.int .i64 E) w) := by
  have HH := Lib.hid h
  have HO := Lib.hid ok
  have HG := Lib.hid g
  clear h ok g
  refine (callsIn_wide (n := 6)).1 ?_
  refine callsIn_of_wp_marks Tryz.func10 rfl trivial ?_ rfl
  refine wpIn_wide.2 ?_
  simp only [Tryz.ntmps10, List.size_toArray, List.length_cons, List.length_nil, Nat.reduceAdd, Nat.reduceSub, Array.replicate_succ, Array.replicate_zero, List.push_toArray, List.append_toArray, List.nil_append, List.cons_append]
  go_wp2_with fail
  have hm0 : Mod Non w (((w.alloc (.cells #[.pointer (some ⟨d, 0, none⟩)] 24)).alloc (.cells #[.int .i64 n] 3)).alloc (.cells #[.int .i64 0] 25)) := (((Mod.refl Non w).alloc _).alloc _).alloc _
  have c3 : Blk (((w.alloc (.cells #[.pointer (some ⟨d, 0, none⟩)] 24)).alloc (.cells #[.int .i64 n] 3)).alloc (.cells #[.int .i64 0] 25)) w.heap.size 24 #[.pointer (some ⟨d, 0, none⟩)] := ((Blk.new _ _ _).alloc _).alloc _
  have c4 : Blk (((w.alloc (.cells #[.pointer (some ⟨d, 0, none⟩)] 24)).alloc (.cells #[.int .i64 n] 3)).alloc (.cells #[.int .i64 0] 25)) (w.heap.size + 1) 3 #[.int .i64 n] := by
    have := (Blk.new (w.alloc (.cells #[.pointer (some ⟨d, 0, none⟩)] 24)) 3 #[.int .i64 n]).alloc (.cells #[.int .i64 0] 25)
    rwa [World.size_alloc] at this
  have c6 : Blk (((w.alloc (.cells #[.pointer (some ⟨d, 0, none⟩)] 24)).alloc (.cells #[.int .i64 n] 3)).alloc (.cells #[.int .i64 0] 25)) (w.heap.size + 1 + 1) 25 #[.int .i64 0] := by
    have := Blk.new ((w.alloc (.cells #[.pointer (some ⟨d, 0, none⟩)] 24)).alloc (.cells #[.int .i64 n] 3)) 25 #[.int .i64 0]
    rwa [World.size_alloc, World.size_alloc] at this
  generalize (((w.alloc (.cells #[.pointer (some ⟨d, 0, none⟩)] 24)).alloc (.cells #[.int .i64 n] 3)).alloc (.cells #[.int .i64 0] 25)) = w0 at *
  refine (none_any F d D _ (HH.out.mod0 hm0) HO.out).mono ?_
  rintro e w1 ⟨rfl, hm1⟩
  have d3 : w1.cell? ⟨w.heap.size, 0, none⟩ = some (.pointer (some ⟨d, 0, none⟩)) := (c3.mod hm1 fun h => h).cell 0
  have d4 : w1.cell? ⟨w.heap.size + 1, 0, none⟩ = some (.int .i64 n) := (c4.mod hm1 fun h => h).cell 0
  have b6 := c6.mod hm1 fun h => h
  have d6 : w1.cell? ⟨w.heap.size + 1 + 1, 0, none⟩ = some (.int .i64 0) := b6.cell 0
  have f6 := b6.frozen 0
  have hmw := hm0.trans0 hm1
  have hlw : w.heap.size ≤ w1.heap.size := hmw.size
  have hfin : ∀ w', Mod Non w w' → Blk w' (w.heap.size + 1 + 1) 25 #[.int .i64 0] → (w'.setCell ⟨w.heap.size + 1 + 1, 0, none⟩ (.int .i64 E)).cell? ⟨w.heap.size + 1 + 1, 0, none⟩ = some (.int .i64 E) ∧ DkPost F d D (.int .i64 E) w (.returned (.int .i64 E)) (w'.setCell ⟨w.heap.size + 1 + 1, 0, none⟩ (.int .i64 E)) := fun w' hm' hb' =>
    ⟨(hb'.set_ 0 _).cell 0, rfl, F, HH.out.mod0 (hm'.setCell (p := ⟨w.heap.size + 1 + 1, 0, none⟩) (.inr (by simp only; omega)) _), (hm'.setCell (p := ⟨w.heap.size + 1 + 1, 0, none⟩) (.inr (by simp only; omega)) _).non, fun k hk => .inl hk⟩
  have HF := Lib.hid hfin
  have HB := Lib.hid b6
  have HM := Lib.hid hmw
  have HD3 := Lib.hid (c3.mod hm1 fun h => h)
  have HD4 := Lib.hid (c4.mod hm1 fun h => h)
  clear hfin b6 hmw hm0 hm1 c3 c4 c6
  go_wp2_with fail
  refine (right_yes n _ hn.1 hn.2).mono ?_
  rintro e w2 ⟨rfl, rfl⟩
  rcases hE with ⟨hoff, rfl⟩ | ⟨hoff, hlt, rfl⟩
  · go_wp2_with fail
    refine (off_any F d D _ (HH.out.mod0 HM.out)).mono ?_
    rintro e w2 ⟨rfl, rfl⟩
    rw [hoff]
    go_wp2_with fail
    refine marks_ret (results_i64cell rfl _ _ (w.heap.size + 1 + 1) _ rfl (HF.out _ HM.out HB.out).1 Tryz.underlying25) rfl (HF.out _ HM.out HB.out).2
  · have HQ : Hid (needW D n b = needW D n b) := rfl
    have HL := Lib.hid hlt
    have hdec : decide (D.n - D.used < needW D n b) = true := by simpa using hlt
    go_wp2_with fail
    refine (off_any F d D _ (HH.out.mod0 HM.out)).mono ?_
    rintro e w2 ⟨rfl, rfl⟩
    rw [hoff]
    go_wp2_with fail
    have tok : True := trivial
    go_region_held3 (fun w' => w'.cell? ⟨w.heap.size, 0, none⟩ = some (.pointer (some ⟨d, 0, none⟩)) ∧ w'.cell? ⟨w.heap.size + 1, 0, none⟩ = some (.int .i64 n))
      (first | go_keep)
      (first
        | (go_at_call 31
           refine (free_any F d D _ (HH.out.mod0 HM.out.drew) HO.out).mono ?_
           rintro e w2 ⟨rfl, hq2⟩
           have hm2 : Mod Non w1 w2 := by { obtain ⟨q2, rfl⟩ := hq2; exact ((Mod.refl Non w1).drew).drewN q2 }
           clear hq2
           have HM2 := Lib.hid (HM.out.trans0 hm2)
           have HMM := Lib.hid hm2
           have g3 := (HD3.out.mod hm2 fun h => h).cell 0
           have g4 := (HD4.out.mod hm2 fun h => h).cell 0
           clear hm2)
        | (go_at_call 32
           refine (need_any F d D n A m c b _ (HH.out.mod0 HM2.out) (HG.out.mod0 HM2.out) (by omega)).mono ?_
           rintro e w3 ⟨rfl, hm3⟩
           have HB3 := Lib.hid ((HB.out.mod HMM.out fun h => h).mod hm3 fun h => h)
           have HM3 := Lib.hid (HM2.out.trans0 hm3)
           have g3' := ((HD3.out.mod HMM.out fun h => h).mod hm3 fun h => h).cell 0
           have g4' := ((HD4.out.mod HMM.out fun h => h).mod hm3 fun h => h).cell 0
           clear hm3))
    have f63 := HB3.out.frozen 0
    have e63 : w3.cell? ⟨w.heap.size + 1 + 1, 0, none⟩ = some (.int .i64 0) := HB3.out.cell 0
    go_wp2_with fail
    refine marks_ret (results_i64cell rfl _ _ (w.heap.size + 1 + 1) _ rfl (HF.out _ HM3.out HB3.out).1 Tryz.underlying25) rfl (HF.out _ HM3.out HB3.out).2

end Go.Proofs.YtgdamcimpgapgaaGreatDoor

/- wal.Add: the loop over the pieces. -/
namespace Go.Proofs.YtgdamcimpgapgaaGreatDoor
open Go.RowKit
attribute [local go_sem] Oper.semAt_some

/-- how things stand between two rounds of Add's loop. -/
structure AddI (F : Nat → Prop) (d : Nat) (D : Dk) (n : Int) (XS : List Bs) (w : World) (B : Nat) (pre : List Bs) (W : World) : Prop where
  disk : ∃ F', DiskIs W F' d (appAll (nameW n) D (pre.map (·.l))).1 ∧ ∀ k, F' k → F k ∨ B + 2 ≤ k
  fine : (appAll (nameW n) D (pre.map (·.l))).2 = 0
  mod : Mod F w W
  b3 : Blk W w.heap.size 24 #[.pointer (some ⟨d, 0, none⟩)]
  b4 : Blk W (w.heap.size + 1) 3 #[.int .i64 n]
  b6 : Blk W (w.heap.size + 1 + 1) 25 #[.int .i64 0]
  rows : ∀ x ∈ XS, Rd W x.A x.n (by8 x.l)
/-- and how at an early end. -/
structure AddX (F : Nat → Prop) (d : Nat) (D : Dk) (n : Int) (w : World) (B : Nat) (c : Code) (pre : List Bs) (W : World) : Prop where
  ret : c = .ret
  disk : ∃ F', DiskIs W F' d (appAll (nameW n) D (pre.map (·.l))).1 ∧ ∀ k, F' k → F k ∨ B + 2 ≤ k
  not : (appAll (nameW n) D (pre.map (·.l))).2 ≠ 0
  mod : Mod F w W
  b6 : Blk W (w.heap.size + 1 + 1) 25 #[.int .i64 (appAll (nameW n) D (pre.map (·.l))).2]

set_option maxRecDepth 100000 in
set_option maxHeartbeats 2000000 in
theorem add_main (F : Nat → Prop) (d : Nat) (D : Dk) (n : Int) (A : Option Addr) (m c : Nat) (b : List UInt8) (w : World) (h : DiskIs w F d D) (ok : DkOk D) (g : Rd w A m (by8 b))
    (hn : 0 ≤ n ∧ n ≤ 1099511627776) (hm : m ≤ 1048576) (hoff : D.off = false) (hge : needW D n b ≤ D.n - D.used) (s : Dk × Int) (hs : s = appAll (nameW n) D (piecesB (frameB b))) (R : Dk × Int) (hR : R = if s.2 = 0 then (syncD s.1 (nameW n), syncE s.1 (nameW n)) else s) :
    Calls Tryz.prog 10 #[.pointer (some ⟨d, 0, none⟩), .int .i64 n, .slice A m c] w (DkPost F d R.1 (.int .i64 R.2) w) := by
  have HS := Lib.hid hs
  have HR := Lib.hid hR
  clear hs hR
  have HH := Lib.hid h
  have HO := Lib.hid ok
  have HG := Lib.hid g
  clear h ok g
  refine (callsIn_wide (n := 6)).1 ?_
  refine callsIn_of_wp_marks Tryz.func10 rfl trivial ?_ rfl
  refine wpIn_wide.2 ?_
  simp only [Tryz.ntmps10, List.size_toArray, List.length_cons, List.length_nil, Nat.reduceAdd, Nat.reduceSub, Array.replicate_succ, Array.replicate_zero, List.push_toArray, List.append_toArray, List.nil_append, List.cons_append]
  go_wp2_with fail
  have hm0 : Mod Non w (((w.alloc (.cells #[.pointer (some ⟨d, 0, none⟩)] 24)).alloc (.cells #[.int .i64 n] 3)).alloc (.cells #[.int .i64 0] 25)) := (((Mod.refl Non w).alloc _).alloc _).alloc _
  have c3 : Blk (((w.alloc (.cells #[.pointer (some ⟨d, 0, none⟩)] 24)).alloc (.cells #[.int .i64 n] 3)).alloc (.cells #[.int .i64 0] 25)) w.heap.size 24 #[.pointer (some ⟨d, 0, none⟩)] := ((Blk.new _ _ _).alloc _).alloc _
  have c4 : Blk (((w.alloc (.cells #[.pointer (some ⟨d, 0, none⟩)] 24)).alloc (.cells #[.int .i64 n] 3)).alloc (.cells #[.int .i64 0] 25)) (w.heap.size + 1) 3 #[.int .i64 n] := by
    have := (Blk.new (w.alloc (.cells #[.pointer (some ⟨d, 0, none⟩)] 24)) 3 #[.int .i64 n]).alloc (.cells #[.int .i64 0] 25)
    rwa [World.size_alloc] at this
  have c6 : Blk (((w.alloc (.cells #[.pointer (some ⟨d, 0, none⟩)] 24)).alloc (.cells #[.int .i64 n] 3)).alloc (.cells #[.int .i64 0] 25)) (w.heap.size + 1 + 1) 25 #[.int .i64 0] := by
    have := Blk.new ((w.alloc (.cells #[.pointer (some ⟨d, 0, none⟩)] 24)).alloc (.cells #[.int .i64 n] 3)) 25 #[.int .i64 0]
    rwa [World.size_alloc, World.size_alloc] at this
  generalize (((w.alloc (.cells #[.pointer (some ⟨d, 0, none⟩)] 24)).alloc (.cells #[.int .i64 n] 3)).alloc (.cells #[.int .i64 0] 25)) = w0 at *
  refine (none_any F d D _ (HH.out.mod0 hm0) HO.out).mono ?_
  rintro e w1 ⟨rfl, hm1⟩
  have d3 : w1.cell? ⟨w.heap.size, 0, none⟩ = some (.pointer (some ⟨d, 0, none⟩)) := (c3.mod hm1 fun h => h).cell 0
  have d4 : w1.cell? ⟨w.heap.size + 1, 0, none⟩ = some (.int .i64 n) := (c4.mod hm1 fun h => h).cell 0
  have b6 := c6.mod hm1 fun h => h
  have d6 : w1.cell? ⟨w.heap.size + 1 + 1, 0, none⟩ = some (.int .i64 0) := b6.cell 0
  have f6 := b6.frozen 0
  have hmw := hm0.trans0 hm1
  have hlw : w.heap.size ≤ w1.heap.size := hmw.size
  have HB := Lib.hid b6
  have HM := Lib.hid hmw
  have HD3 := Lib.hid (c3.mod hm1 fun h => h)
  have HD4 := Lib.hid (c4.mod hm1 fun h => h)
  clear b6 hmw hm0 hm1 c3 c4 c6
  go_wp2_with fail
  refine (right_yes n _ hn.1 hn.2).mono ?_
  rintro e w2 ⟨rfl, rfl⟩
  have hdec : decide (D.n - D.used < needW D n b) = false := by simpa using hge
  go_wp2_with fail
  refine (off_any F d D _ (HH.out.mod0 HM.out)).mono ?_
  rintro e w2 ⟨rfl, rfl⟩
  rw [hoff]
  go_wp2_with fail
  have tok : True := trivial
  go_region_held3 (fun w' => w'.cell? ⟨w.heap.size, 0, none⟩ = some (.pointer (some ⟨d, 0, none⟩)) ∧ w'.cell? ⟨w.heap.size + 1, 0, none⟩ = some (.int .i64 n))
    (first | go_keep)
    (first
      | (go_at_call 31
         refine (free_any F d D _ (HH.out.mod0 HM.out.drew) HO.out).mono ?_
         rintro e w2 ⟨rfl, hq2⟩
         have hm2 : Mod Non w1 w2 := by { obtain ⟨q2, rfl⟩ := hq2; exact ((Mod.refl Non w1).drew).drewN q2 }
         clear hq2
         have HM2 := Lib.hid (HM.out.trans0 hm2)
         have HMM := Lib.hid hm2
         have g3 := (HD3.out.mod hm2 fun h => h).cell 0
         have g4 := (HD4.out.mod hm2 fun h => h).cell 0
         clear hm2)
      | (go_at_call 32
         refine (need_any F d D n A m c b _ (HH.out.mod0 HM2.out) (HG.out.mod0 HM2.out) (by omega)).mono ?_
         rintro e w3 ⟨rfl, hm3⟩
         have HM13 := Lib.hid (HMM.out.trans0 hm3)
         have g3' := ((HD3.out.mod HMM.out fun h => h).mod hm3 fun h => h).cell 0
         have g4' := ((HD4.out.mod HMM.out fun h => h).mod hm3 fun h => h).cell 0
         clear hm3))
  go_wp2_with fail
  have HG3 := Lib.hid ((HG.out.mod0 HM.out).mod0 HM13.out)
  refine (putFrame_any none A 0 0 m c [] b _ (Rd.nil _ _) HG3.out (by omega)).mono ?_
  rintro e w4 ⟨Af, nf, cf, rfl, hnf, hof, hbf⟩
  rw [List.nil_append] at hnf hof
  have hm34 : Mod Non w3 w4 := Mod.of_below hbf
  have HNF := Lib.hid hnf
  have HOF := Lib.hid hof
  have HM34 := Lib.hid hm34
  clear hnf hof hm34 hbf
  go_wp2_with fail
  refine (chunks_any Af nf cf _).mono ?_
  rintro e w5 ⟨rfl, hw5⟩
  go_wp2_with fail
  have hlf : 0 < (frameB b).length := by
    unfold frameB
    simp only [List.length_append, high4, List.length_cons]
    omega
  have hAf : ∀ k, blkOf Af = some k → w3.heap.size ≤ k ∧ k < w4.heap.size := fun k hk => by
    refine ⟨own_base HOF.out k hk, ?_⟩
    obtain ⟨k', hk', hlt⟩ := (Rd.of_own HOF.out).lt (by rw [HNF.out]; exact hlf)
    rw [hk] at hk'
    cases hk'
    exact hlt
  obtain ⟨_, _, hv, hnc, hcm⟩ := own_slice HOF.out
  cases hv
  have hr5 : Rd w5 Af nf (by8 (frameB b)) := by rw [← hw5]; exact (Rd.of_own HOF.out).alloc _
  have hbx5 : Blk w5 w4.heap.size 31 #[.slice Af nf cf] := by rw [← hw5]; exact Blk.new _ _ _
  have hm45 : Mod Non w4 w5 := by rw [← hw5]; exact (Mod.refl _ _).alloc _
  have hs5a : w5.heap.size ≤ w4.heap.size + 1 := by rw [← hw5]; simp
  have hs5b : w4.heap.size + 1 ≤ w5.heap.size := by rw [← hw5]; simp
  have hm15 := (HM13.out.trans0 HM34.out).trans0 hm45
  have hmw5 := HM.out.trans0 hm15
  have hpieces := (chunkBs_is nf Af nf cf (frameB b) w5 (fun k => ¬ (w3.heap.size ≤ k ∧ k < w4.heap.size)) (Nat.le_refl _) hr5 hnc (fun k hk h => h (hAf k hk))).1
  have hmapl := chunkBs_l nf Af nf cf (frameB b) (Nat.le_refl _) HNF.out.symm
  have hseq := chunks1_seq Fence.wide 5 trivial rfl (by omega) w4.heap.size Af nf cf (frameB b) w5 hbx5 hnc (by unfold maxLen at hcm; omega)
  have hwsz : w.heap.size ≤ w1.heap.size := hlw
  have h13 := HM13.out.size
  have h34 := HM34.out.size
  have hb3 : Blk w5 w.heap.size 24 #[.pointer (some ⟨d, 0, none⟩)] := HD3.out.mod hm15 fun h => h
  have hb4 : Blk w5 (w.heap.size + 1) 3 #[.int .i64 n] := HD4.out.mod hm15 fun h => h
  have hb6 : Blk w5 (w.heap.size + 1 + 1) 25 #[.int .i64 0] := HB.out.mod hm15 fun h => h
  have hb6lt := HB.out.lt
  have hD5 := HH.out.mod0 hmw5
  have hFlt : ∀ k, F k → k < w.heap.size := by { obtain ⟨_, _, _, _, _, _, _, _, h⟩ := HH.out; exact h }
  have hpow := HH.out.lay.lt
  generalize chunkBs Af nf cf (frameB b) = XS at *
  have hI : ∀ pre A' B', AddI F d D n XS w w5.heap.size pre A' → Mod (LoopS (fun k => k = w4.heap.size) w5.heap.size) A' B' → AddI F d D n XS w w5.heap.size pre B' := by
    rintro pre A' B' ⟨⟨F', hd, hF'⟩, h2, h3, h4, h5, h6, h7⟩ hm'
    have hS : ∀ k, LoopS (fun k => k = w4.heap.size) w5.heap.size k → w4.heap.size ≤ k ∧ k ≤ w5.heap.size + 1 := by
      rintro k (rfl | rfl | rfl) <;> omega
    refine ⟨⟨F', hd.mod hm' (fun k hk hs => ?_) (fun hs => by have := hS _ hs; omega), hF'⟩, h2, h3.trans hm' (fun k hk => .inr (by have := hS _ hk; omega)), h4.mod hm' (fun hs => by have := hS _ hs; omega), h5.mod hm' (fun hs => by have := hS _ hs; omega), h6.mod hm' (fun hs => by have := hS _ hs; omega), fun x hx => (h7 x hx).mod hm' fun _ k hk hs => ?_⟩
    · have := hS _ hs
      rcases hF' k hk with h | h
      · have := hFlt k h; omega
      · omega
    · have := hS _ hs
      have h8 := (hpieces x hx).2.2.2.2.2 k hk
      omega
  have hX : ∀ c pre A' B', AddX F d D n w w5.heap.size c pre A' → Mod (LoopS (fun k => k = w4.heap.size) w5.heap.size) A' B' → AddX F d D n w w5.heap.size c pre B' := by
    rintro c pre A' B' ⟨h1, ⟨F', hd, hF'⟩, h2, h3, h6⟩ hm'
    have hS : ∀ k, LoopS (fun k => k = w4.heap.size) w5.heap.size k → w4.heap.size ≤ k ∧ k ≤ w5.heap.size + 1 := by
      rintro k (rfl | rfl | rfl) <;> omega
    refine ⟨h1, ⟨F', hd.mod hm' (fun k hk hs => ?_) (fun hs => by have := hS _ hs; omega), hF'⟩, h2, h3.trans hm' (fun k hk => .inr (by have := hS _ hk; omega)), h6.mod hm' (fun hs => by have := hS _ hs; omega)⟩
    have := hS _ hs
    rcases hF' k hk with h | h
    · have := hFlt k h; omega
    · omega
  have HI := Lib.hid hI
  have HX := Lib.hid hX
  have HP := Lib.hid hpieces
  have HML := Lib.hid hmapl
  have H0 : Hid (AddI F d D n XS w w5.heap.size [] w5) := ⟨⟨F, hD5, fun k hk => .inl hk⟩, rfl, hmw5.non, hb3, hb4, hb6, fun x hx => (hpieces x hx).1⟩
  clear hI hX hpieces hmapl hD5 hb3 hb4 hb6 hm15 hmw5 hm45 hbx5 hr5 hAf hlf
  refine wpIn_wide.1 (wpIn_rangeT (n := 6) (P := Tryz.prog) (F := Fence.wide) rfl (by omega) (gf := 64) (lb := #[.pointer (some ⟨w4.heap.size, 0, none⟩)]) rfl trivial (enters_of Tryz.func64 (by kernel_rfl) rfl) hseq (by intro k hk; subst hk; omega)
    (AddI F d D n XS w w5.heap.size) (AddX F d D n w w5.heap.size) HI.out HX.out H0.out (fun x => { tmps := #[.pointer (some ⟨d, 0, none⟩), .int .i64 n, .slice A m c, .pointer (some ⟨w.heap.size, 0, none⟩), .pointer (some ⟨w.heap.size + 1, 0, none⟩), undef, .pointer (some ⟨w.heap.size + 1 + 1, 0, none⟩), .slice x.A x.n x.c, undef,
      .bool (decide (1048576 < (m : Int))), .pointer (some ⟨d, 0, none⟩), .bool false, .bool false, .int .i64 n, .bool true, .bool false, .bool false, .bool false, .slice A m c, .int .i64 m, .bool (decide (1048576 < (m : Int))), .bool (decide (1048576 < (m : Int))), .bool false,
      .pointer (some ⟨d, 0, none⟩), .bool false, .bool false, .pointer (some ⟨d, 0, none⟩), .int .i64 (D.n - D.used), .pointer (some ⟨d, 0, none⟩), .int .i64 n, .slice A m c, .int .i64 (needW D n b), .bool false, .slice A m c, .slice Af nf cf,
      .func (.func 64) #[] #[.pointer (some ⟨w4.heap.size, 0, none⟩)], .slice x.A x.n x.c, undef, undef, undef, undef, undef, undef, undef, undef, undef, undef, undef, undef], defers := [] }) ?assign ?body ?done ?stop)
  case assign =>
    intro l x W K hK
    obtain ⟨xA, xn, xc, xl⟩ := x
    simp only [Bs.val] at hK ⊢
    gi_wp2
    exact hK
  case body =>
    rintro l pre x W hpre hlt ⟨⟨F', hd, hF'⟩, h2, h3, b3, b4, b6, h7⟩
    obtain ⟨E, hE⟩ : ∃ E, appendE (appAll (nameW n) D (pre.map (·.l))).1 (nameW n) x.l = E := ⟨_, rfl⟩
    have HE := Lib.hid hE
    have HD := Lib.hid hd
    have HFF := Lib.hid hF'
    have H2 := Lib.hid h2
    have H3 := Lib.hid h3
    have H7 := Lib.hid h7
    have HB3 := Lib.hid b3
    have HB4 := Lib.hid b4
    have HB6 := Lib.hid b6
    have g3 : W.cell? ⟨w.heap.size, 0, none⟩ = some (.pointer (some ⟨d, 0, none⟩)) := b3.cell 0
    have g4 : W.cell? ⟨w.heap.size + 1, 0, none⟩ = some (.int .i64 n) := b4.cell 0
    clear hE hd hF' h2 h3 b3 b4 b6 h7
    have hf1 : Fence.wide.fn 9 := trivial
    have hf2 : Fence.wide.fn 35 := trivial
    have hmx : Tryz.prog.follows .mixedOrders = true := by kernel_rfl
    have hxm : x ∈ XS := hpre.subset (by simp)
    have HR0 : Hid (RdO W F' x.A x.n (by8 x.l)) := ⟨H7.out x hxm, fun _ k hk hs => by
      have h8 := (HP.out x hxm).2.2.2.2.2 k hk
      rcases HFF.out k hs with h | h
      · have := hFlt k h; omega
      · omega⟩
    have hno : ∀ k, w.heap.size ≤ k → k < w5.heap.size + 2 → ¬ F' k := fun k h1 h2 h3 => by
      rcases HFF.out k h3 with h | h
      · have := hFlt k h; omega
      · omega
    have hn3 := hno w.heap.size (by omega) (by omega)
    have hn4 := hno (w.heap.size + 1) (by omega) (by omega)
    have hn6 := hno (w.heap.size + 1 + 1) (by omega) (by omega)
    have HSN : Hid (appAll (nameW n) D ((pre ++ [x]).map (·.l)) = (appendD (appAll (nameW n) D (pre.map (·.l))).1 (nameW n) x.l, E)) := by
      show _ = _
      rw [List.map_append, List.map_cons, List.map_nil, appAll_snoc]
      unfold appStep
      rw [if_pos H2.out, HE.out]
    by_cases hE0 : E = 0
    · subst hE0
      gi_wp2
      gi_region_with_o (first
        | (gi_at_call 9
           refine (CallsIn.inRound l (callsIn_wide.2 (name_any n _ (HD.out.lay.mod0 ((Mod.refl Non W).drew))))).mono ?_
           rintro e w6 ⟨rfl, hm6⟩
           have HM6 := Lib.hid (((Mod.refl Non W).drew).trans0 hm6)
           have g36 : w6.cell? ⟨w.heap.size, 0, none⟩ = some (.pointer (some ⟨d, 0, none⟩)) := hm6.cell g3 fun h => h
           have g46 : w6.cell? ⟨w.heap.size + 1, 0, none⟩ = some (.int .i64 n) := hm6.cell g4 fun h => h
           clear hm6)
        | (gi_at_call 35
           refine (CallsIn.inRound l (callsIn_wide.2 (append_any F' d _ (nameW n) x.A x.n x.c x.l _ (HD.out.mod0 HM6.out) (appAll_ok HO.out _) (HR0.out.mod0 HM6.out) (by have := nameW_size n; omega)))).mono ?_
           rintro e w7 ⟨rfl, F2, hD2, hM7, hF2⟩
           rw [HE.out]
           have HM7 := Lib.hid (HM6.out.non.trans hM7 fun _ h => .inl h)
           have HD2 := Lib.hid hD2
           have HF2 := Lib.hid hF2
           have b67 := HB6.out.mod HM7.out hn6
           have g67 : w7.cell? ⟨w.heap.size + 1 + 1, 0, none⟩ = some (.int .i64 0) := b67.cell 0
           have f67 := b67.frozen 0
           have HB67 := Lib.hid b67
           clear b67 hM7 hD2 hF2))
      all_goals gi_wp2
      all_goals
        exact ⟨KeepT.of_mod HM7.out (by { rintro k (rfl | rfl | rfl) <;> exact hno _ (by omega) (by omega) }),
          ⟨F2, by { rw [HSN.out]; exact HD2.out }, fun k hk => (HF2.out k hk).elim (fun h => HFF.out k h) fun h => .inr (by have := HM6.out.size; omega)⟩,
          by rw [HSN.out], H3.out.trans HM7.out (fun k hk => (HFF.out k hk).imp id fun h => by omega), HB3.out.mod HM7.out hn3, HB4.out.mod HM7.out hn4, HB67.out,
          fun y hy => (H7.out y hy).mod HM7.out fun _ k hk => hno k (by have h8 := (HP.out y hy).2.2.2.2.2 k hk; omega) (by have h8 := (HP.out y hy).2.2.2.2.2 k hk; omega)⟩
    · have hE1 : (E == 0) = false := by simp [hE0]
      have hE2 : (E != 0) = true := by simp [hE0]
      gi_wp2
      gi_region_with_o (first
        | (gi_at_call 9
           refine (CallsIn.inRound l (callsIn_wide.2 (name_any n _ (HD.out.lay.mod0 ((Mod.refl Non W).drew))))).mono ?_
           rintro e w6 ⟨rfl, hm6⟩
           have HM6 := Lib.hid (((Mod.refl Non W).drew).trans0 hm6)
           have g36 : w6.cell? ⟨w.heap.size, 0, none⟩ = some (.pointer (some ⟨d, 0, none⟩)) := hm6.cell g3 fun h => h
           have g46 : w6.cell? ⟨w.heap.size + 1, 0, none⟩ = some (.int .i64 n) := hm6.cell g4 fun h => h
           clear hm6)
        | (gi_at_call 35
           refine (CallsIn.inRound l (callsIn_wide.2 (append_any F' d _ (nameW n) x.A x.n x.c x.l _ (HD.out.mod0 HM6.out) (appAll_ok HO.out _) (HR0.out.mod0 HM6.out) (by have := nameW_size n; omega)))).mono ?_
           rintro e w7 ⟨rfl, F2, hD2, hM7, hF2⟩
           rw [HE.out]
           have HM7 := Lib.hid (HM6.out.non.trans hM7 fun _ h => .inl h)
           have HD2 := Lib.hid hD2
           have HF2 := Lib.hid hF2
           have b67 := HB6.out.mod HM7.out hn6
           have g67 : w7.cell? ⟨w.heap.size + 1 + 1, 0, none⟩ = some (.int .i64 0) := b67.cell 0
           have f67 := b67.frozen 0
           have HB67 := Lib.hid b67
           clear b67 hM7 hD2 hF2))
      all_goals gi_wp2
      all_goals
        have hm8 : Mod (fun k => k = w.heap.size + 1 + 1) w7 (w7.setCell ⟨w.heap.size + 1 + 1, 0, none⟩ (.int .i64 E)) := (Mod.refl _ _).set1 0 _
        have hF2n : ¬ F2 (w.heap.size + 1 + 1) := fun h => (HF2.out _ h).elim hn6 fun h => by have := HM6.out.size; omega
        have hm9 : Mod (fun k => F' k ∨ k = w.heap.size + 1 + 1) W (w7.setCell ⟨w.heap.size + 1 + 1, 0, none⟩ (.int .i64 E)) := (HM7.out.mono fun k h => .inl h).trans (hm8.mono fun k h => .inr h) fun k hk => .inl hk
        exact ⟨KeepT.of_mod hm9 (by { rintro k (rfl | rfl | rfl) <;> rintro (h | h) <;> first | exact hno _ (by omega) (by omega) h | omega }),
          rfl, ⟨F2, by { rw [HSN.out]; exact HD2.out.mod hm8 (fun k hk e => hF2n (e ▸ hk)) (by omega) }, fun k hk => (HF2.out k hk).elim (fun h => HFF.out k h) fun h => .inr (by have := HM6.out.size; omega)⟩,
          by { rw [HSN.out]; exact hE0 }, H3.out.trans hm9 (fun k hk => hk.elim (fun hk => (HFF.out k hk).imp id fun h => by omega) fun h => .inr (by omega)), by { rw [HSN.out]; exact HB67.out.set_ 0 _ }⟩
  case done =>
    rintro W ⟨⟨F', hd, hF'⟩, h2, h3, b3, b4, b6, h7⟩ hK
    have HD := Lib.hid hd
    have HFF := Lib.hid hF'
    have H2 := Lib.hid h2
    have H3 := Lib.hid h3
    have HB3 := Lib.hid b3
    have HB4 := Lib.hid b4
    have HB6 := Lib.hid b6
    have HK := Lib.hid hK
    have g3 : W.cell? ⟨w.heap.size, 0, none⟩ = some (.pointer (some ⟨d, 0, none⟩)) := b3.cell 0
    have g4 : W.cell? ⟨w.heap.size + 1, 0, none⟩ = some (.int .i64 n) := b4.cell 0
    have hKlt : w5.heap.size < W.heap.size := (Array.getElem?_eq_some_iff.1 hK).1
    have hno : ∀ k, w.heap.size ≤ k → k < w5.heap.size + 2 → ¬ F' k := fun k h1 h2 h3 => by
      rcases HFF.out k h3 with h | h
      · have := hFlt k h; omega
      · omega
    have hn6 := hno (w.heap.size + 1 + 1) (by omega) (by omega)
    have hnK := hno w5.heap.size (by omega) (by omega)
    have HRS : Hid (R = (syncD (appAll (nameW n) D (XS.map (·.l))).1 (nameW n), syncE (appAll (nameW n) D (XS.map (·.l))).1 (nameW n))) := by
      show R = _
      rw [HR.out, HS.out, ← HML.out, if_pos H2.out]
    obtain ⟨D1, hD1⟩ : ∃ D1, (appAll (nameW n) D (XS.map (·.l))).1 = D1 := ⟨_, rfl⟩
    rw [hD1] at HRS HD
    have HO1 : Hid (DkOk D1) := by { show DkOk D1; rw [← hD1]; exact appAll_ok HO.out _ }
    obtain ⟨E, hE⟩ : ∃ E, syncE D1 (nameW n) = E := ⟨_, rfl⟩
    have HE := Lib.hid hE
    rw [hE] at HRS
    clear hd hF' h2 h3 b3 b4 b6 hK h7 hD1 hE
    go_wp2_with fail
    go_region_held3 (fun w' => w'.cell? ⟨w.heap.size, 0, none⟩ = some (.pointer (some ⟨d, 0, none⟩)) ∧ w'.cell? ⟨w.heap.size + 1, 0, none⟩ = some (.int .i64 n))
      (first | assumption | exact gc3 | exact gc4 | exact ⟨gc3, gc4⟩ | go_keep)
      (first
        | (go_at_call 9
           refine (name_any n _ (HD.out.lay.mod0 ((Mod.refl Non W).drew))).mono ?_
           rintro e wa ⟨rfl, hma⟩
           have HMA := Lib.hid (((Mod.refl Non W).drew).trans0 hma)
           have ga3 : wa.cell? ⟨w.heap.size, 0, none⟩ = some (.pointer (some ⟨d, 0, none⟩)) := hma.cell g3 fun h => h
           have ga4 : wa.cell? ⟨w.heap.size + 1, 0, none⟩ = some (.int .i64 n) := hma.cell g4 fun h => h
           clear hma)
        | (go_at_call 36
           refine (sync_any F' d D1 (nameW n) _ (HD.out.mod0 HMA.out) HO1.out (by have := nameW_size n; omega)).mono ?_
           rintro e wb ⟨rfl, F2, hD2, hMb, hF2⟩
           rw [HE.out]
           have HMB := Lib.hid (HMA.out.non.trans hMb fun _ h => .inl h)
           have HD2 := Lib.hid hD2
           have HF2 := Lib.hid hF2
           have bb6 := HB6.out.mod HMB.out hn6
           have gb6 : wb.cell? ⟨w.heap.size + 1 + 1, 0, none⟩ = some (.int .i64 0) := bb6.cell 0
           have fb6 := bb6.frozen 0
           have gb3 : wb.cell? ⟨w.heap.size, 0, none⟩ = some (.pointer (some ⟨d, 0, none⟩)) := (HB3.out.mod HMB.out (hno w.heap.size (by omega) (by omega))).cell 0
           have gb4 : wb.cell? ⟨w.heap.size + 1, 0, none⟩ = some (.int .i64 n) := (HB4.out.mod HMB.out (hno (w.heap.size + 1) (by omega) (by omega))).cell 0
           have HBB6 := Lib.hid bb6
           have hw8 : Mod (fun k => k = w.heap.size + 1 + 1) wb (wb.setCell ⟨w.heap.size + 1 + 1, 0, none⟩ (.int .i64 E)) := (Mod.refl _ _).set1 0 _
           have gc3 : (wb.setCell ⟨w.heap.size + 1 + 1, 0, none⟩ (.int .i64 E)).cell? ⟨w.heap.size, 0, none⟩ = some (.pointer (some ⟨d, 0, none⟩)) := hw8.cell gb3 (by simp only; omega)
           have gc4 : (wb.setCell ⟨w.heap.size + 1 + 1, 0, none⟩ (.int .i64 E)).cell? ⟨w.heap.size + 1, 0, none⟩ = some (.int .i64 n) := hw8.cell gb4 (by simp only; omega)
           have HW8 := Lib.hid hw8
           clear hw8 bb6 hMb hD2 hF2))
    go_wp2_with fail
    have hnF2 : ∀ k, w.heap.size ≤ k → k < w5.heap.size + 1 → ¬ F2 k := fun k h1 h2 h3 => by
      rcases HF2.out k h3 with h | h
      · exact hno k h1 (by omega) h
      · have := HMA.out.size; omega
    have hwb : W.heap.size ≤ wb.heap.size := HMB.out.size
    have hK1 : (wb.setCell ⟨w.heap.size + 1 + 1, 0, none⟩ (.int .i64 E)).heap[w5.heap.size]? = some (.deferred (some [])) :=
      (HW8.out.block w5.heap.size (by omega) (by omega)).trans ((HMB.out.block w5.heap.size hKlt hnK).trans HK.out)
    have hm' : Mod (fun k => k = w5.heap.size) (wb.setCell ⟨w.heap.size + 1 + 1, 0, none⟩ (.int .i64 E)) ((wb.setCell ⟨w.heap.size + 1 + 1, 0, none⟩ (.int .i64 E)).putObj w5.heap.size (.deferred none)) := mod_putObj _ _ _ rfl
    have bb8 := (HBB6.out.set_ 0 (.int .i64 E)).mod hm' (by omega)
    rw [HRS.out]
    refine marks_coll rfl hK1 (results_i64cell rfl _ _ (w.heap.size + 1 + 1) _ rfl (bb8.cell 0) Tryz.underlying25) ⟨rfl, F2, (HD2.out.mod HW8.out (fun k hk e => hnF2 _ (by omega) (by omega) (e ▸ hk)) (by omega)).mod hm' (fun k hk e => hnF2 _ (by omega) (by omega) (e ▸ hk)) (by omega), ?_, ?_⟩
    · refine ((H3.out.trans HMB.out fun k hk => ?_).trans HW8.out fun k hk => .inr (by omega)).trans hm' fun k hk => .inr (by omega)
      exact (HFF.out k hk).imp id fun h => by omega
    · intro k hk
      rcases HF2.out k hk with h | h
      · exact (HFF.out k h).imp id fun h => by omega
      · have := HMA.out.size; exact .inr (by omega)
  case stop =>
    rintro c0 pre W hpre ⟨rfl, ⟨F', hd, hF'⟩, h2, h3, b6⟩ hK
    refine wpIn_wide.2 ?_
    go_wp2_with fail
    have hst := appAll_stop (nm := nameW n) (D := D) (hpre.map (·.l)) h2
    rw [HML.out, ← HS.out] at hst
    have hRs : R = s := by rw [HR.out, if_neg (by rw [hst]; exact h2)]
    rw [hRs, hst]
    have hKlt : w5.heap.size < W.heap.size := (Array.getElem?_eq_some_iff.1 hK).1
    have hm' : Mod (fun k => k = w5.heap.size) W (W.putObj w5.heap.size (.deferred none)) := mod_putObj W _ _ rfl
    have hno : ∀ k, F' k → k ≠ w5.heap.size := fun k hk e => by
      rcases hF' k hk with h | h
      · have := hFlt k h; omega
      · omega
    have b6' := b6.mod hm' (by omega)
    refine marks_coll rfl hK (results_i64cell rfl _ _ (w.heap.size + 1 + 1) _ rfl (b6'.cell 0) Tryz.underlying25) ⟨rfl, F', hd.mod hm' hno (by omega), h3.trans hm' (fun k hk => .inr (by omega)), fun k hk => (hF' k hk).imp id fun h => by omega⟩

/-- wal.Add. -/
theorem add_wal (F : Nat → Prop) (d : Nat) (D : Dk) (n : Int) (A : Option Addr) (m c : Nat) (b : List UInt8) (w : World) (h : DiskIs w F d D) (ok : DkOk D) (g : Rd w A m (by8 b)) (hm : m ≤ 9223372036854775807) :
    Calls Tryz.prog 10 #[.pointer (some ⟨d, 0, none⟩), .int .i64 n, .slice A m c] w (DkPost F d (addB D n b).1 (.int .i64 (addB D n b).2) w) := by
  have hbl : b.length = m := by simpa using g.1
  unfold addB
  split
  · rename_i hn
    rw [hbl] at hn
    split
    · rename_i hoff
      exact add_early F d D n A m c b w h ok g ⟨hn.1, hn.2.1⟩ hn.2.2 5 (.inl ⟨hoff, rfl⟩)
    · rename_i hoff
      have hoff' : D.off = false := by simpa using hoff
      split
      · rename_i hlt
        exact add_early F d D n A m c b w h ok g ⟨hn.1, hn.2.1⟩ hn.2.2 4 (.inr ⟨hoff', hlt, rfl⟩)
      · rename_i hlt
        exact add_main F d D n A m c b w h ok g ⟨hn.1, hn.2.1⟩ hn.2.2 hoff' (by omega) _ rfl _ rfl
  · rename_i hn
    rw [hbl] at hn
    exact add_bad F d D n A m c w h ok (by omega) hm

end Go.Proofs.YtgdamcimpgapgaaGreatDoor
