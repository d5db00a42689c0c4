/- wal.Add: what it computes, and its early ends. -/
import Derived.Test.YtgdamcimpgapgaaGreatDoorWal3
import Derived.Shelf.RegionOpen
import Derived.Laws.ResultCell
namespace Go.Proofs.YtgdamcimpgapgaaGreatDoor
open Go.RowKit
attribute [local go_sem] Oper.semAt_some

/-- the pieces of a frame appended one by one: the disk behind, and the first error. -/
def appStep (nm : ByteArray) (s : Dk × Int) (b : List UInt8) : Dk × Int := if s.2 = 0 then (appendD s.1 nm b, appendE s.1 nm b) else s
def appAll (nm : ByteArray) (D : Dk) (l : List (List UInt8)) : Dk × Int := l.foldl (appStep nm) (D, 0)
theorem appAll_snoc (nm : ByteArray) (D : Dk) (l : List (List UInt8)) (b : List UInt8) : appAll nm D (l ++ [b]) = appStep nm (appAll nm D l) b := by simp [appAll]
theorem appStep_stop {nm : ByteArray} {s : Dk × Int} (h : s.2 ≠ 0) : ∀ l : List (List UInt8), l.foldl (appStep nm) s = s
  | [] => rfl
  | b :: r => by rw [List.foldl_cons, show appStep nm s b = s by unfold appStep; rw [if_neg h]]; exact appStep_stop h r
theorem appAll_stop {nm : ByteArray} {D : Dk} {l k : List (List UInt8)} (hk : l <+: k) (h : (appAll nm D l).2 ≠ 0) : appAll nm D k = appAll nm D l := by
  obtain ⟨r, rfl⟩ := hk
  unfold appAll at *
  rw [List.foldl_append]
  exact appStep_stop h r
theorem appAll_ok {nm : ByteArray} {D : Dk} (ok : DkOk D) (l : List (List UInt8)) : DkOk (appAll nm D l).1 := by
  unfold appAll
  suffices ∀ s : Dk × Int, DkOk s.1 → DkOk (l.foldl (appStep nm) s).1 from this _ ok
  intro s hs
  induction l generalizing s with
  | nil => exact hs
  | cons b r ih =>
    rw [List.foldl_cons]
    refine ih _ ?_
    unfold appStep
    split
    · exact appendD_ok hs nm b
    · exact hs

/-- a list of bytes cut into pieces of at most 4096. -/
def piecesB (l : List UInt8) : List (List UInt8) := if _h : l.length = 0 then [] else l.take 4096 :: piecesB (l.drop 4096)
termination_by l.length
decreasing_by simp only [List.length_drop]; omega
theorem chunkBs_l (m : Nat) : ∀ (A : Option Addr) (n c : Nat) (l : List UInt8), n ≤ m → l.length = n → (chunkBs A n c l).map (·.l) = piecesB l := by
  induction m with
  | zero => intro A n c l hm hl; obtain rfl : n = 0 := by omega
            rw [chunkBs_zero, piecesB, dif_pos hl]; rfl
  | succ m ih =>
    intro A n c l hm hl
    by_cases h0 : n = 0
    · subst h0; rw [chunkBs_zero, piecesB, dif_pos hl]; rfl
    · rw [chunkBs_pos A c l h0, piecesB, dif_neg (by omega), List.map_cons]
      rw [ih _ _ _ _ (by omega) (by simp; omega)]
      have h1 : l.take (min n 4096) = l.take 4096 := by
        rcases Nat.le_total n 4096 with h | h
        · rw [Nat.min_eq_left h, List.take_of_length_le (by omega), List.take_of_length_le (by omega)]
        · rw [Nat.min_eq_right h]
      have h2 : l.drop (min n 4096) = l.drop 4096 := by
        rcases Nat.le_total n 4096 with h | h
        · rw [Nat.min_eq_left h, List.drop_eq_nil_of_le (by omega), List.drop_eq_nil_of_le (by omega)]
        · rw [Nat.min_eq_right h]
      simp only [h1, h2]

/-- what Add answers, and the disk behind it. -/
def addB (D : Dk) (n : Int) (b : List UInt8) : Dk × Int :=
  if 0 ≤ n ∧ n ≤ 1099511627776 ∧ b.length ≤ 1048576 then
    if D.off = true then (D, 5)
    else if D.n - D.used < needW D n b then (D, 4)
    else
      let s := appAll (nameW n) D (piecesB (frameB b))
      if s.2 = 0 then (syncD s.1 (nameW n), syncE s.1 (nameW n)) else s
  else (D, 1)

/-! the ends of a function with a range over a function, its result in a cell -/
section
variable {P : Program} {F : Fence} {n : Nat}
theorem marks_ret {fn : Func} {R : Ending → World → Prop} {a : Act} {w : World} {v : Value} (hv : (results fn a.tmps).run P w = .ok v w) (hd : a.defers = []) (h : R (.returned v) w) : bodyPostM F n P fn R .ret a w := by
  show LeavesInM F n P fn a.tmps R a.defers .returning w
  rw [hd]
  exact ⟨v, hv, h⟩
theorem marks_coll {fn : Func} {R : Ending → World → Prop} {a : Act} {w : World} {v : Value} {K : Nat} (hd : a.defers = [{ target := .collected K, args := #[] }]) (hK : w.heap[K]? = some (.deferred (some [])))
    (hv : (results fn a.tmps).run P (w.putObj K (.deferred none)) = .ok v (w.putObj K (.deferred none))) (h : R (.returned v) (w.putObj K (.deferred none))) : bodyPostM F n P fn R .ret a w := by
  show LeavesInM F n P fn a.tmps R a.defers .returning w
  rw [hd]
  exact ⟨by simp, .inl ⟨_, _, rfl, run_takeDeferred hK, v, hv, h⟩⟩
theorem results_i64cell {fn : Func} {p : Tmp} {ty : TypeId} (h : fn.results = #[.cell p ty]) (tmps : Array Value) (w : World) (g : Nat) (v : Value)
    (hp : tmps.getD p undef = .pointer (some ⟨g, 0, none⟩)) (hg : w.cell? ⟨g, 0, none⟩ = some v) (hu : P.underlying ty = some (.int .i64)) :
    (results fn tmps).run P w = .ok v w := by
  have hp' : tmps[p]?.getD undef = .pointer (some ⟨g, 0, none⟩) := by simpa using hp
  have hagg : (isAgg ty).run P w = .ok false w := by
    unfold isAgg
    rw [Sem.run_bind, run_underlying hu w]
    rfl
  simp [results, h, hp', asAddr, loadVar, Sem.run_bind, hagg, hg, Result.andThen]
end

set_option maxRecDepth 100000 in
set_option maxHeartbeats 1000000 in
theorem add_bad (F : Nat → Prop) (d : Nat) (D : Dk) (n : Int) (A : Option Addr) (m c : Nat) (w : World) (h : DiskIs w F d D) (ok : DkOk D)
    (hn : ¬ (0 ≤ n ∧ n ≤ 1099511627776) ∨ (0 ≤ n ∧ n ≤ 1099511627776) ∧ 1048576 < m) (hm : m ≤ 9223372036854775807) :
    Calls Tryz.prog 10 #[.pointer (some ⟨d, 0, none⟩), .int .i64 n, .slice A m c] w (DkPost F d D (.int .i64 1) w) := by
  have HH := Lib.hid h
  have HO := Lib.hid ok
  clear h ok
  refine (callsIn_wide (n := 6)).1 ?_
  refine callsIn_of_wp_marks Tryz.func10 rfl trivial ?_ rfl
  refine wpIn_wide.2 ?_
  simp only [Tryz.ntmps10, List.size_toArray, List.length_cons, List.length_nil, Nat.reduceAdd, Nat.reduceSub, Array.replicate_succ, Array.replicate_zero, List.push_toArray, List.append_toArray, List.nil_append, List.cons_append]
  go_wp2_with fail
  have hm0 : Mod Non w (((w.alloc (.cells #[.pointer (some ⟨d, 0, none⟩)] 24)).alloc (.cells #[.int .i64 n] 3)).alloc (.cells #[.int .i64 0] 25)) := (((Mod.refl Non w).alloc _).alloc _).alloc _
  have c3 : Blk (((w.alloc (.cells #[.pointer (some ⟨d, 0, none⟩)] 24)).alloc (.cells #[.int .i64 n] 3)).alloc (.cells #[.int .i64 0] 25)) w.heap.size 24 #[.pointer (some ⟨d, 0, none⟩)] := ((Blk.new _ _ _).alloc _).alloc _
  have c4 : Blk (((w.alloc (.cells #[.pointer (some ⟨d, 0, none⟩)] 24)).alloc (.cells #[.int .i64 n] 3)).alloc (.cells #[.int .i64 0] 25)) (w.heap.size + 1) 3 #[.int .i64 n] := by
    have := (Blk.new (w.alloc (.cells #[.pointer (some ⟨d, 0, none⟩)] 24)) 3 #[.int .i64 n]).alloc (.cells #[.int .i64 0] 25)
    rwa [World.size_alloc] at this
  have c6 : Blk (((w.alloc (.cells #[.pointer (some ⟨d, 0, none⟩)] 24)).alloc (.cells #[.int .i64 n] 3)).alloc (.cells #[.int .i64 0] 25)) (w.heap.size + 1 + 1) 25 #[.int .i64 0] := by
    have := Blk.new ((w.alloc (.cells #[.pointer (some ⟨d, 0, none⟩)] 24)).alloc (.cells #[.int .i64 n] 3)) 25 #[.int .i64 0]
    rwa [World.size_alloc, World.size_alloc] at this
  generalize (((w.alloc (.cells #[.pointer (some ⟨d, 0, none⟩)] 24)).alloc (.cells #[.int .i64 n] 3)).alloc (.cells #[.int .i64 0] 25)) = w0 at *
  refine (none_any F d D _ (HH.out.mod0 hm0) HO.out).mono ?_
  rintro e w1 ⟨rfl, hm1⟩
  have d3 : w1.cell? ⟨w.heap.size, 0, none⟩ = some (.pointer (some ⟨d, 0, none⟩)) := (c3.mod hm1 fun h => h).cell 0
  have d4 : w1.cell? ⟨w.heap.size + 1, 0, none⟩ = some (.int .i64 n) := (c4.mod hm1 fun h => h).cell 0
  have b6 := c6.mod hm1 fun h => h
  have d6 : w1.cell? ⟨w.heap.size + 1 + 1, 0, none⟩ = some (.int .i64 0) := b6.cell 0
  have f6 := b6.frozen 0
  have hmw := hm0.trans0 hm1
  have hlw : w.heap.size ≤ w1.heap.size := hmw.size
  have hfin : DkPost F d D (.int .i64 1) w (.returned (.int .i64 1)) (w1.setCell ⟨w.heap.size + 1 + 1, 0, none⟩ (.int .i64 1)) :=
    ⟨rfl, F, HH.out.mod0 (hmw.setCell (p := ⟨w.heap.size + 1 + 1, 0, none⟩) (.inr (by simp only; omega)) _), (hmw.setCell (p := ⟨w.heap.size + 1 + 1, 0, none⟩) (.inr (by simp only; omega)) _).non, fun k hk => .inl hk⟩
  have e6 : (w1.setCell ⟨w.heap.size + 1 + 1, 0, none⟩ (.int .i64 1)).cell? ⟨w.heap.size + 1 + 1, 0, none⟩ = some (.int .i64 1) := (b6.set_ 0 _).cell 0
  have HF := Lib.hid hfin
  have HE6 := Lib.hid e6
  clear hfin e6 hm0 hm1 c3 c4 c6 b6
  rcases hn with hn | ⟨hn, hm1⟩
  · go_wp2_with fail
    refine (right_no n _ (by omega)).mono ?_
    rintro e w2 ⟨rfl, rfl⟩
    go_wp2_with fail
    refine marks_ret (results_i64cell rfl _ _ (w.heap.size + 1 + 1) _ rfl HE6.out Tryz.underlying25) rfl HF.out
  · go_wp2_with fail
    refine (right_yes n _ (by omega) (by omega)).mono ?_
    rintro e w2 ⟨rfl, rfl⟩
    go_wp2_with fail
    refine marks_ret (results_i64cell rfl _ _ (w.heap.size + 1 + 1) _ rfl HE6.out Tryz.underlying25) rfl HF.out


set_option maxRecDepth 100000 in
set_option maxHeartbeats 2000000 in
theorem add_early (F : Nat → Prop) (d : Nat) (D : Dk) (n : Int) (A : Option Addr) (m c : Nat) (b : List UInt8) (w : World) (h : DiskIs w F d D) (ok : DkOk D) (g : Rd w A m (by8 b))
    (hn : 0 ≤ n ∧ n ≤ 1099511627776) (hm : m ≤ 1048576) (E : Int) (hE : D.off = true ∧ E = 5 ∨ D.off = false ∧ D.n - D.used < needW D n b ∧ E = 4) :
    Calls Tryz.prog 10 #[.pointer (some ⟨d, 0, none⟩), .int .i64 n, .slice A m c] w (DkPost F d D (.int .i64 E) w) := by
  have HH := Lib.hid h
  have HO := Lib.hid ok
  have HG := Lib.hid g
  clear h ok g
  refine (callsIn_wide (n := 6)).1 ?_
  refine callsIn_of_wp_marks Tryz.func10 rfl trivial ?_ rfl
  refine wpIn_wide.2 ?_
  simp only [Tryz.ntmps10, List.size_toArray, List.length_cons, List.length_nil, Nat.reduceAdd, Nat.reduceSub, Array.replicate_succ, Array.replicate_zero, List.push_toArray, List.append_toArray, List.nil_append, List.cons_append]
  go_wp2_with fail
  have hm0 : Mod Non w (((w.alloc (.cells #[.pointer (some ⟨d, 0, none⟩)] 24)).alloc (.cells #[.int .i64 n] 3)).alloc (.cells #[.int .i64 0] 25)) := (((Mod.refl Non w).alloc _).alloc _).alloc _
  have c3 : Blk (((w.alloc (.cells #[.pointer (some ⟨d, 0, none⟩)] 24)).alloc (.cells #[.int .i64 n] 3)).alloc (.cells #[.int .i64 0] 25)) w.heap.size 24 #[.pointer (some ⟨d, 0, none⟩)] := ((Blk.new _ _ _).alloc _).alloc _
  have c4 : Blk (((w.alloc (.cells #[.pointer (some ⟨d, 0, none⟩)] 24)).alloc (.cells #[.int .i64 n] 3)).alloc (.cells #[.int .i64 0] 25)) (w.heap.size + 1) 3 #[.int .i64 n] := by
    have := (Blk.new (w.alloc (.cells #[.pointer (some ⟨d, 0, none⟩)] 24)) 3 #[.int .i64 n]).alloc (.cells #[.int .i64 0] 25)
    rwa [World.size_alloc] at this
  have c6 : Blk (((w.alloc (.cells #[.pointer (some ⟨d, 0, none⟩)] 24)).alloc (.cells #[.int .i64 n] 3)).alloc (.cells #[.int .i64 0] 25)) (w.heap.size + 1 + 1) 25 #[.int .i64 0] := by
    have := Blk.new ((w.alloc (.cells #[.pointer (some ⟨d, 0, none⟩)] 24)).alloc (.cells #[.int .i64 n] 3)) 25 #[.int .i64 0]
    rwa [World.size_alloc, World.size_alloc] at this
  generalize (((w.alloc (.cells #[.pointer (some ⟨d, 0, none⟩)] 24)).alloc (.cells #[.int .i64 n] 3)).alloc (.cells #[.int .i64 0] 25)) = w0 at *
  refine (none_any F d D _ (HH.out.mod0 hm0) HO.out).mono ?_
  rintro e w1 ⟨rfl, hm1⟩
  have d3 : w1.cell? ⟨w.heap.size, 0, none⟩ = some (.pointer (some ⟨d, 0, none⟩)) := (c3.mod hm1 fun h => h).cell 0
  have d4 : w1.cell? ⟨w.heap.size + 1, 0, none⟩ = some (.int .i64 n) := (c4.mod hm1 fun h => h).cell 0
  have b6 := c6.mod hm1 fun h => h
  have d6 : w1.cell? ⟨w.heap.size + 1 + 1, 0, none⟩ = some (.int .i64 0) := b6.cell 0
  have f6 := b6.frozen 0
  have hmw := hm0.trans0 hm1
  have hlw : w.heap.size ≤ w1.heap.size := hmw.size
  have hfin : ∀ w', Mod Non w w' → Blk w' (w.heap.size + 1 + 1) 25 #[.int .i64 0] → (w'.setCell ⟨w.heap.size + 1 + 1, 0, none⟩ (.int .i64 E)).cell? ⟨w.heap.size + 1 + 1, 0, none⟩ = some (.int .i64 E) ∧ DkPost F d D (.int .i64 E) w (.returned (.int .i64 E)) (w'.setCell ⟨w.heap.size + 1 + 1, 0, none⟩ (.int .i64 E)) := fun w' hm' hb' =>
    ⟨(hb'.set_ 0 _).cell 0, rfl, F, HH.out.mod0 (hm'.setCell (p := ⟨w.heap.size + 1 + 1, 0, none⟩) (.inr (by simp only; omega)) _), (hm'.setCell (p := ⟨w.heap.size + 1 + 1, 0, none⟩) (.inr (by simp only; omega)) _).non, fun k hk => .inl hk⟩
  have HF := Lib.hid hfin
  have HB := Lib.hid b6
  have HM := Lib.hid hmw
  have HD3 := Lib.hid (c3.mod hm1 fun h => h)
  have HD4 := Lib.hid (c4.mod hm1 fun h => h)
  clear hfin b6 hmw hm0 hm1 c3 c4 c6
  go_wp2_with fail
  refine (right_yes n _ hn.1 hn.2).mono ?_
  rintro e w2 ⟨rfl, rfl⟩
  rcases hE with ⟨hoff, rfl⟩ | ⟨hoff, hlt, rfl⟩
  · go_wp2_with fail
    refine (off_any F d D _ (HH.out.mod0 HM.out)).mono ?_
    rintro e w2 ⟨rfl, rfl⟩
    rw [hoff]
    go_wp2_with fail
    refine marks_ret (results_i64cell rfl _ _ (w.heap.size + 1 + 1) _ rfl (HF.out _ HM.out HB.out).1 Tryz.underlying25) rfl (HF.out _ HM.out HB.out).2
  · have HQ : Hid (needW D n b = needW D n b) := rfl
    have HL := Lib.hid hlt
    have hdec : decide (D.n - D.used < needW D n b) = true := by simpa using hlt
    go_wp2_with fail
    refine (off_any F d D _ (HH.out.mod0 HM.out)).mono ?_
    rintro e w2 ⟨rfl, rfl⟩
    rw [hoff]
    go_wp2_with fail
    have tok : True := trivial
    go_region_held3 (fun w' => w'.cell? ⟨w.heap.size, 0, none⟩ = some (.pointer (some ⟨d, 0, none⟩)) ∧ w'.cell? ⟨w.heap.size + 1, 0, none⟩ = some (.int .i64 n))
      (first | go_keep)
      (first
        | (go_at_call 31
           refine (free_any F d D _ (HH.out.mod0 HM.out.drew) HO.out).mono ?_
           rintro e w2 ⟨rfl, hq2⟩
           have hm2 : Mod Non w1 w2 := by { obtain ⟨q2, rfl⟩ := hq2; exact ((Mod.refl Non w1).drew).drewN q2 }
           clear hq2
           have HM2 := Lib.hid (HM.out.trans0 hm2)
           have HMM := Lib.hid hm2
           have g3 := (HD3.out.mod hm2 fun h => h).cell 0
           have g4 := (HD4.out.mod hm2 fun h => h).cell 0
           clear hm2)
        | (go_at_call 32
           refine (need_any F d D n A m c b _ (HH.out.mod0 HM2.out) (HG.out.mod0 HM2.out) (by omega)).mono ?_
           rintro e w3 ⟨rfl, hm3⟩
           have HB3 := Lib.hid ((HB.out.mod HMM.out fun h => h).mod hm3 fun h => h)
           have HM3 := Lib.hid (HM2.out.trans0 hm3)
           have g3' := ((HD3.out.mod HMM.out fun h => h).mod hm3 fun h => h).cell 0
           have g4' := ((HD4.out.mod HMM.out fun h => h).mod hm3 fun h => h).cell 0
           clear hm3))
    have f63 := HB3.out.frozen 0
    have e63 : w3.cell? ⟨w.heap.size + 1 + 1, 0, none⟩ = some (.int .i64 0) := HB3.out.cell 0
    go_wp2_with fail
    refine marks_ret (results_i64cell rfl _ _ (w.heap.size + 1 + 1) _ rfl (HF.out _ HM3.out HB3.out).1 Tryz.underlying25) rfl (HF.out _ HM3.out HB3.out).2

end Go.Proofs.YtgdamcimpgapgaaGreatDoor
