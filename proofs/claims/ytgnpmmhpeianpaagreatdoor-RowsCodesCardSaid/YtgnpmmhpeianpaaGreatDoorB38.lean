/- rows: DecodeHead. -/
import Derived.Test.YtgnpmmhpeianpaaGreatDoorB23
import Derived.Test.YtgnpmmhpeianpaaGreatDoorB12
import Derived.Test.YtgnpmmhpeianpaaGreatDoorB30
namespace Go.Proofs.YtgnpmmhpeianpaaGreatDoor
open Go.RowKit
attribute [local go_sem] Oper.semAt_some

def toT (l : List UInt8) : ByteArray := ⟨l.toArray⟩
/-- the texts of bytes, 32 each. -/
def textsH (q : List UInt8) : List ByteArray := (piecesH q).map toT
/-- the head of bytes: its three numbers, its texts. -/
def decH (l : List UInt8) : Option (List Nat × List ByteArray) := match takeN 3 l with
  | none => none
  | some (ms, q) => if 2 ≤ (textsH q).length ∧ headR (ms.getD 0 0) ((textsH q).getD 0 ⟨#[]⟩) (ms.getD 1 0) (ms.getD 2 0) ((textsH q).drop 2) ((textsH q).getD 1 ⟨#[]⟩) = true then some (ms, textsH q) else none
def DhPost (l : List UInt8) (w : World) (e : Ending) (w' : World) : Prop := match decH l with
  | none => e = .returned (.tuple #[.agg (hCells 0 ⟨#[]⟩ 0 0 none 0 0 ⟨#[]⟩), .int .i64 2]) ∧ Mod Non w w'
  | some (ms, ts) => ∃ A' n' c', e = .returned (.tuple #[.agg (hCells (ms.getD 0 0) (ts.getD 0 ⟨#[]⟩) (ms.getD 1 0) (ms.getD 2 0) A' n' c' (ts.getD 1 ⟨#[]⟩)), .int .i64 0]) ∧ n' + 2 = ts.length ∧ Rd w' A' n' ((ts.drop 2).map Value.string) ∧ n' ≤ c' ∧ c' ≤ 9223372036854775807 ∧ Mod Non w w'

/-- what take answers, both ways in one. -/
structure TkAll (l : List UInt8) (w w' : World) (X : Value) (A2 : Option Addr) (n2 c2 : Nat) (q : List UInt8) (is : Bool) : Prop where
  rd : Rd w' A2 n2 (by8 q)
  c2 : n2 ≤ c2 ∧ c2 ≤ 9223372036854775807 ∧ n2 ≤ 140737488351232
  mod : Mod Non w w'
  no : is = false → takeN 3 l = none ∧ q = []
  yes : is = true → ∃ a b d A1 c1, takeN 3 l = some ([a, b, d], q) ∧ X = .slice A1 3 c1 ∧ Rd w' A1 3 (i64s [a, b, d])
theorem takeAll_any (A : Option Addr) (n c : Nat) (l : List UInt8) (w : World) (h : Rd w A n (by8 l)) (hnc : n ≤ c) (hn : n ≤ 140737488351232) (hcm : c ≤ 9223372036854775807) :
    Calls Tryz.prog 35 #[.slice A n c, .int .i64 3] w fun e w' => ∃ X A2 n2 c2 q is, e = .returned (.tuple #[X, .slice A2 n2 c2, .bool is]) ∧ TkAll l w w' X A2 n2 c2 q is := by
  have hll : l.length = n := by simpa using h.1
  refine (takeW_any A n c l 3 w h hnc (by omega) hcm (by omega)).mono ?_
  intro e w' ht
  unfold TkPost at ht
  cases htn : takeN 3 l with
  | none =>
    rw [htn] at ht
    obtain ⟨rfl, hm⟩ := ht
    exact ⟨_, none, 0, 0, [], false, rfl, ⟨Rd.nil _ _, ⟨Nat.le_refl _, by omega, by omega⟩, hm, fun _ => ⟨htn, rfl⟩, fun h => by cases h⟩⟩
  | some p =>
    obtain ⟨ms, q⟩ := p
    have hml := takeN_len htn
    have hql := takeN_rest htn
    rw [htn] at ht
    obtain ⟨A1, c1, A2, n2, c2, rfl, hr1, _, hq2, hr2, ⟨hc2, hc2', _⟩, hm⟩ := ht
    match ms, hml with
    | [a, b, d], _ => exact ⟨_, A2, n2, c2, q, true, rfl, ⟨hr2, ⟨hc2, hc2', by omega⟩, hm, fun h => (by cases h), fun _ => ⟨a, b, d, A1, c1, htn, rfl, hr1⟩⟩⟩

theorem blk_cut {A : Option Addr} {k : Nat} (h : blkOf A = some k) : blkOf A = some k := h
/-- how things stand between two rounds over the pieces. -/
structure DhI (w1 : World) (B : Nat) (pre : List Bs) (W : World) : Prop where
  own : ∃ A q c, Blk W w1.heap.size 24 #[.slice A q c] ∧ q = pre.length ∧ W.ownsRow B 9 1 (.slice A q c) q (pre.map fun x => Value.string (toT x.l))
  mod : Mod Non w1 W

set_option maxRecDepth 100000 in
set_option maxHeartbeats 4000000 in
theorem decHead_any (A : Option Addr) (n c : Nat) (l : List UInt8) (w : World) (h : Rd w A n (by8 l)) (hnc : n ≤ c) (hn : n ≤ 140737488351232) (hcm : c ≤ 9223372036854775807) :
    Calls Tryz.prog 16 #[.slice A n c] w (DhPost l w) := by
  obtain ⟨w0, hw0⟩ : ∃ w0, w0 = w.alloc (.cells (hCells 0 ⟨#[]⟩ 0 0 none 0 0 ⟨#[]⟩) 37) := ⟨_, rfl⟩
  have hb0 : Blk w0 w.heap.size 37 (hCells 0 ⟨#[]⟩ 0 0 none 0 0 ⟨#[]⟩) := by rw [hw0]; exact Blk.new _ _ _
  have hm0 : Mod Non w w0 := by rw [hw0]; exact (Mod.refl Non w).alloc _
  have HM0 := Lib.hid hm0
  have HB0 := Lib.hid hb0
  have HT := Lib.hid (takeAll_any A n c l w0 (h.mod0 hm0) hnc hn hcm)
  unfold hCells at hw0
  have HW0 := Lib.hid hw0
  clear hb0 hm0 hw0 h hnc hn hcm
  refine (callsIn_wide (n := 6)).1 ?_
  refine callsIn_of_wp_marks Tryz.func16 rfl trivial ?_ rfl
  refine wpIn_wide.2 ?_
  simp only [Tryz.ntmps16, List.size_toArray, List.length_cons, List.length_nil, Nat.reduceAdd, Nat.reduceSub, Array.replicate_succ, Array.replicate_zero, List.push_toArray, List.append_toArray, List.nil_append, List.cons_append]
  go_wp2_with fail
  rw [← HW0.out]
  refine HT.out.mono ?_
  rintro r w1 ⟨X4, A2, n2, c2, q, is, rfl, ht⟩
  have HTK := Lib.hid ht
  have HM1 := Lib.hid (HM0.out.trans0 ht.mod)
  have HB1 := Lib.hid (HB0.out.mod ht.mod fun h => h)
  obtain ⟨hc2, hc2', hn2⟩ := ht.c2
  have HR2 := Lib.hid ht.rd
  clear ht
  go_wp2_with fail
  have hbt : Blk (w1.alloc (.cells #[.slice none 0 0] 24)) w1.heap.size 24 #[.slice none 0 0] := Blk.new _ _ _
  have hm10 : Mod Non w1 (w1.alloc (.cells #[.slice none 0 0] 24)) := (Mod.refl _ _).alloc _
  have hz10 : (w1.alloc (.cells #[.slice none 0 0] 24)).heap.size = w1.heap.size + 1 := World.size_alloc _ _
  have hz1 : w1.heap.size + 1 ≤ (w1.alloc (.cells #[.slice none 0 0] 24)).heap.size := by omega
  have hz2 : (w1.alloc (.cells #[.slice none 0 0] 24)).heap.size ≤ w1.heap.size + 1 := by omega
  clear hz10
  generalize (w1.alloc (.cells #[.slice none 0 0] 24)) = W0 at *
  refine (chunkZ_any A2 n2 c2 _).mono ?_
  rintro e w5 ⟨rfl, hw5⟩
  go_wp2_with fail
  have hm05 : Mod Non W0 w5 := by rw [← hw5]; exact ((Mod.refl _ _).alloc _).alloc _
  have hmw5 : Mod Non w1 w5 := hm10.trans0 hm05
  have hbx1 : Blk w5 W0.heap.size 27 #[.slice A2 n2 c2] := by rw [← hw5]; exact (Blk.new _ _ _).alloc _
  have hbx2 : Blk w5 (W0.heap.size + 1) 3 #[.int .i64 32] := by
    rw [← hw5]
    have := Blk.new (W0.alloc (.cells #[.slice A2 n2 c2] 27)) 3 #[.int .i64 32]
    rwa [World.size_alloc] at this
  have hz5 : w5.heap.size = W0.heap.size + 2 := by rw [← hw5]; simp only [World.size_alloc]
  have hz5a : w5.heap.size ≤ W0.heap.size + 2 := by omega
  have hz5b : W0.heap.size + 2 ≤ w5.heap.size := by omega
  clear hz5
  have hr5 : Rd w5 A2 n2 (by8 q) := (HR2.out.mod0 hm10).mod0 hm05
  have hql : q.length = n2 := by simpa using hr5.1
  have hmapl := chunkH_l n2 A2 n2 0 q (by omega) (by rw [hql]; omega)
  have hseq := chunkZ_seq 5 (by omega) W0.heap.size (W0.heap.size + 1) A2 n2 c2 q w5 hbx1 hbx2 hc2 hc2' (by omega)
  have hb7 : Blk w5 w1.heap.size 24 #[.slice none 0 0] := hbt.mod hm05 fun h => h
  have hp1 := chunkH_is n2 A2 n2 0 q w1 (by omega) HR2.out
  rw [List.drop_zero] at hp1
  have hpieces : ∀ x ∈ chunkH A2 n2 0 q, Rd w1 x.A x.n (by8 x.l) := fun x hx => (hp1 x hx).1
  have hcnt : 32 * (chunkH A2 n2 0 q).length ≤ n2 + 31 := by
    have h1 := congrArg List.length hmapl
    have h2 := piecesH_len q
    rw [List.length_map] at h1
    omega
  generalize chunkH A2 n2 0 q = XS at *
  have hTX : textsH q = XS.map fun x => toT x.l := by unfold textsH; rw [← hmapl, List.map_map]; rfl
  have hzz := HM1.out.size
  have hI : ∀ pre A' B', DhI w1 (w5.heap.size + 2) pre A' → Mod (LoopS (fun k => k = W0.heap.size ∨ k = W0.heap.size + 1) w5.heap.size) A' B' → DhI w1 (w5.heap.size + 2) pre B' := by
    rintro pre A' B' ⟨⟨Aq, qq, cq, h1, h2, h3⟩, h4⟩ hm'
    have hS : ∀ k, LoopS (fun k => k = W0.heap.size ∨ k = W0.heap.size + 1) w5.heap.size k → W0.heap.size ≤ k ∧ k ≤ w5.heap.size + 1 := by
      rintro k ((rfl | rfl) | rfl | rfl) <;> omega
    refine ⟨⟨Aq, qq, cq, h1.mod hm' (fun hs => by have := hS _ hs; omega), h2, own_mod h3 hm' fun b hb hs => ?_⟩, h4.trans hm' (fun k hk => .inr (by have := hS _ hk; omega))⟩
    have h6 := (h3.lt b hb).1
    have := hS _ hs
    omega
  have HI := Lib.hid hI
  have HP := Lib.hid hpieces
  have HTX := Lib.hid hTX
  have H0 : Hid (DhI w1 (w5.heap.size + 2) [] w5) := ⟨⟨none, 0, 0, hb7, rfl, ⟨rfl, .inl ⟨rfl, rfl⟩⟩⟩, hmw5⟩
  clear hI hpieces hmapl hb7 hmw5 hm05 hbx1 hbx2 hr5 hp1 hw5 hm10 hbt hTX
  refine wpIn_wide.1 (wpIn_rangeT (n := 6) (P := Tryz.prog) (F := Fence.wide) rfl (by omega) (gf := 65) (lb := #[.pointer (some ⟨W0.heap.size, 0, none⟩), .pointer (some ⟨W0.heap.size + 1, 0, none⟩)]) rfl trivial (enters_of Tryz.func65 (by kernel_rfl) rfl) hseq (by rintro k (rfl | rfl) <;> omega)
    (DhI w1 (w5.heap.size + 2)) (fun _ _ _ => False) HI.out (fun _ _ _ _ h _ => h) H0.out (fun x => { tmps := #[.slice A n c, undef, .pointer (some ⟨w.heap.size, 0, none⟩), .int .i64 0, X4, .slice A2 n2 c2, .bool is, .pointer (some ⟨w1.heap.size, 0, none⟩), .slice x.A x.n x.c, undef,
      .tuple #[X4, .slice A2 n2 c2, .bool is], .slice A n c, .tuple #[X4, .slice A2 n2 c2, .bool is], X4, .slice A2 n2 c2, .bool is, .slice A2 n2 c2, .func (.func 65) #[] #[.pointer (some ⟨W0.heap.size, 0, none⟩), .pointer (some ⟨W0.heap.size + 1, 0, none⟩)], .slice x.A x.n x.c, undef, undef, undef, undef, undef, undef, undef, undef, undef, undef, undef, undef, undef, undef, undef, undef, undef, undef, undef, undef, undef, undef, undef, undef, undef, undef, undef, undef, undef, undef, undef, undef, undef, undef, undef, undef], defers := [] }) ?assign ?body ?done ?stop)
  case assign =>
    intro l x W K hK
    obtain ⟨xA, xn, xc, xl⟩ := x
    simp only [Bs.val] at hK ⊢
    gi_wp2
    exact hK
  case body =>
    rintro l pre x W hpre hlt ⟨⟨Aq, qq, cq, h1, h2, h3⟩, h4⟩
    have hxm : x ∈ XS := hpre.subset (by simp)
    have hpl : pre.length ≤ XS.length := by have := hpre.length_le; simp at this; omega
    have hrx := (HP.out x hxm).mod0 h4
    have hcv := conv_str (P := Tryz.prog) W 27 9 5 x.A x.n x.c x.l Tryz.underlying27 Tryz.underlying5 Tryz.underlying9 hrx
    have g7 : W.cell? ⟨w1.heap.size, 0, none⟩ = some (.slice Aq qq cq) := h1.cell 0
    have f7 := h1.frozen 0
    have HB7 := Lib.hid h1
    have H2 := Lib.hid h2
    have H3 := Lib.hid h3
    have H4 := Lib.hid h4
    obtain ⟨xA, xn, xc, xl⟩ := x
    obtain ⟨sv, hsv⟩ : ∃ sv, toT xl = sv := ⟨_, rfl⟩
    rw [show (⟨xl.toArray⟩ : ByteArray) = toT xl from rfl, hsv] at hcv
    have HSV := Lib.hid hsv
    obtain ⟨iS, hiS, hzS, hsS, hbS⟩ := infoS
    have hmx : maxLen = 9223372036854775807 := rfl
    have hqq : 32 * qq ≤ 140737488351263 := by rw [h2]; omega
    clear h1 h2 h3 h4 hrx hsv
    simp only at hcv
    gi_wp2_with (gi_at_builtin; refine wpListIn_append_own _ rfl _ _ 24 rfl (w5.heap.size + 2) 9 iS (.string ⟨#[]⟩) 1 16 Tryz.underlying24 hiS hzS hsS hbS rfl (by decide) _ _ _ rfl (H3.out.alloc _) ⟨W.heap.size, 0, none⟩ 1 1 [.string sv] rfl rfl (cell_one_new _ _ _) (by simp [Value.oneCell']) (by omega) (by omega) (by simp; omega) ?_; intro v' w7 hown' hg' hnil'; obtain ⟨A7, c7, rfl, hc7, hc7'⟩ := own_slice hown'
                 have hS7 : Mod (fun k => (Value.slice Aq qq cq).ownBlock = some k) (W.alloc (.cells #[.string sv] 9)) w7 := Mod.of_grown hg' fun _ h => h
                 have hno7 : ¬ (Value.slice Aq qq cq).ownBlock = some w1.heap.size := fun e => by have := (H3.out.lt _ e).1; omega
                 have hb77 := (HB7.out.alloc (.cells #[.string sv] 9)).mod hS7 hno7
                 have g77 : w7.cell? ⟨w1.heap.size, 0, none⟩ = some (.slice Aq qq cq) := hb77.cell 0
                 have f77 := hb77.frozen 0
                 have HB77 := Lib.hid hb77
                 have HS7 := Lib.hid hS7
                 have HOWN := Lib.hid hown'
                 have HG7 := Lib.hid hg'
                 have HNO := Lib.hid hno7
                 clear hb77 hS7 hown' hg' hno7 g7 f7)
    have hset : Mod (fun k => k = w1.heap.size) w7 (w7.setCell ⟨w1.heap.size, 0, none⟩ (.slice A7 (qq + 1) c7)) := (Mod.refl _ _).set1 0 _
    have hlW : w1.heap.size < W.heap.size := HB7.out.lt
    have hsz7 : W.heap.size ≤ w7.heap.size := by have := HS7.out.size; simp at this; omega
    have hall : Mod (fun k => k = w1.heap.size ∨ (Value.slice Aq qq cq).ownBlock = some k) W (w7.setCell ⟨w1.heap.size, 0, none⟩ (.slice A7 (qq + 1) c7)) := by
      refine Mod.trans (T := fun k => k = w1.heap.size) ((((Mod.refl Non W).alloc (.cells #[.string sv] 9)).non (S := fun k => k = w1.heap.size ∨ (Value.slice Aq qq cq).ownBlock = some k)).trans HS7.out fun k hk => .inl (.inr hk)) hset fun k hk => .inl (.inl hk)
    refine ⟨KeepT.of_mod hall ?_, ⟨A7, qq + 1, c7, HB77.out.set_ 0 _, by rw [H2.out]; simp, ?_⟩, ?_⟩
    · rintro k ((rfl | rfl) | rfl | rfl) <;> rintro (h | h) <;> first | omega | (have := (H3.out.lt _ h).1; omega)
    · have ho8 := own_mod HOWN.out hset fun b hb e => by have := (HOWN.out.lt b hb).1; omega
      rw [List.map_append, List.map_cons, List.map_nil, HSV.out]
      exact ho8
    · exact H4.out.trans hall fun k hk => .inr (by
        rcases hk with h | h
        · omega
        · have := (H3.out.lt _ h).1; omega)
  case done =>
    rintro W ⟨⟨Aq, qq, cq, h1, h2, h3⟩, h4⟩ hK
    have hKlt : w5.heap.size < W.heap.size := (Array.getElem?_eq_some_iff.1 hK).1
    have HB7 := Lib.hid h1
    have H3 := Lib.hid h3
    have H4 := Lib.hid h4
    have HMW := Lib.hid (HM1.out.trans0 h4)
    have hbW := HB1.out.mod h4 fun h => h
    unfold hCells at hbW
    have HBW := Lib.hid hbW
    have hlq : (textsH q).length = qq := by rw [HTX.out, List.length_map, h2]
    have HLQ := Lib.hid hlq
    have HK := Lib.hid hK
    have g7 : W.cell? ⟨w1.heap.size, 0, none⟩ = some (.slice Aq qq cq) := h1.cell 0
    have HKS : Hid (∀ a0 a1 a2 a3 a4 a5, (((((((W.setCell ⟨w.heap.size, 0, none⟩ a0).setCell ⟨w.heap.size, 1, none⟩ a1).setCell ⟨w.heap.size, 2, none⟩ a2).setCell ⟨w.heap.size, 3, none⟩ a3).setCell ⟨w.heap.size, 4, none⟩ a4).setCell ⟨w.heap.size, 5, none⟩ a5)).heap[w5.heap.size]? = some (.deferred (some []))) := fun a0 a1 a2 a3 a4 a5 => by
      have hms : Mod (fun k => k = w.heap.size) W ((((((W.setCell ⟨w.heap.size, 0, none⟩ a0).setCell ⟨w.heap.size, 1, none⟩ a1).setCell ⟨w.heap.size, 2, none⟩ a2).setCell ⟨w.heap.size, 3, none⟩ a3).setCell ⟨w.heap.size, 4, none⟩ a4).setCell ⟨w.heap.size, 5, none⟩ a5) := ((((((Mod.refl _ _).set1 0 a0).set1 1 a1).set1 2 a2).set1 3 a3).set1 4 a4).set1 5 a5
      exact (hms.block w5.heap.size (hKlt) (by omega)).trans hK
    have r0 : W.cell? ⟨w.heap.size, 0, none⟩ = some (.int .i64 0) := hbW.cell 0
    have fr0 := hbW.frozen 0
    have r1 : W.cell? ⟨w.heap.size, 1, none⟩ = some (.string ⟨#[]⟩) := hbW.cell 1
    have fr1 := hbW.frozen 1
    have r2 : W.cell? ⟨w.heap.size, 2, none⟩ = some (.int .i64 0) := hbW.cell 2
    have fr2 := hbW.frozen 2
    have r3 : W.cell? ⟨w.heap.size, 3, none⟩ = some (.int .i64 0) := hbW.cell 3
    have fr3 := hbW.frozen 3
    have r4 : W.cell? ⟨w.heap.size, 4, none⟩ = some (.slice none 0 0) := hbW.cell 4
    have fr4 := hbW.frozen 4
    have r5 : W.cell? ⟨w.heap.size, 5, none⟩ = some (.string ⟨#[]⟩) := hbW.cell 5
    have fr5 := hbW.frozen 5
    obtain ⟨hq1, hq2⟩ : qq ≤ cq ∧ cq ≤ maxLen := by
      obtain ⟨_, _, he, x1, x2⟩ := own_slice h3
      cases he
      exact ⟨x1, x2⟩
    have hmx : maxLen = 9223372036854775807 := rfl
    clear h1 h2 h3 h4 hbW hK hlq
    cases is with
    | false =>
      have hn : decH l = none := by unfold decH; rw [(HTK.out.no rfl).1]
      have HN := Lib.hid hn
      clear hn
      go_wp2_with fail
      have HBZ := Lib.hid ((((((HBW.out.set_ 0 (.int .i64 0)).set_ 1 (.string ⟨#[]⟩)).set_ 2 (.int .i64 0)).set_ 3 (.int .i64 0)).set_ 4 (.slice none 0 0)).set_ 5 (.string ⟨#[]⟩))
      have HMZ := Lib.hid ((((((HMW.out.setCell (p := ⟨w.heap.size, 0, none⟩) (.inr (by simp only; omega)) (.int .i64 0)).setCell (p := ⟨w.heap.size, 1, none⟩) (.inr (by simp only; omega)) (.string ⟨#[]⟩)).setCell (p := ⟨w.heap.size, 2, none⟩) (.inr (by simp only; omega)) (.int .i64 0)).setCell (p := ⟨w.heap.size, 3, none⟩) (.inr (by simp only; omega)) (.int .i64 0)).setCell (p := ⟨w.heap.size, 4, none⟩) (.inr (by simp only; omega)) (.slice none 0 0)).setCell (p := ⟨w.heap.size, 5, none⟩) (.inr (by simp only; omega)) (.string ⟨#[]⟩))
      have hKZ : ((((((W.setCell ⟨w.heap.size, 0, none⟩ (.int .i64 0)).setCell ⟨w.heap.size, 1, none⟩ (.string ⟨#[]⟩)).setCell ⟨w.heap.size, 2, none⟩ (.int .i64 0)).setCell ⟨w.heap.size, 3, none⟩ (.int .i64 0)).setCell ⟨w.heap.size, 4, none⟩ (.slice none 0 0)).setCell ⟨w.heap.size, 5, none⟩ (.string ⟨#[]⟩)).heap[w5.heap.size]? = some (.deferred (some [])) := HKS.out _ _ _ _ _ _
      have hmK : Mod (fun k => k = w5.heap.size) ((((((W.setCell ⟨w.heap.size, 0, none⟩ (.int .i64 0)).setCell ⟨w.heap.size, 1, none⟩ (.string ⟨#[]⟩)).setCell ⟨w.heap.size, 2, none⟩ (.int .i64 0)).setCell ⟨w.heap.size, 3, none⟩ (.int .i64 0)).setCell ⟨w.heap.size, 4, none⟩ (.slice none 0 0)).setCell ⟨w.heap.size, 5, none⟩ (.string ⟨#[]⟩)) (((((((W.setCell ⟨w.heap.size, 0, none⟩ (.int .i64 0)).setCell ⟨w.heap.size, 1, none⟩ (.string ⟨#[]⟩)).setCell ⟨w.heap.size, 2, none⟩ (.int .i64 0)).setCell ⟨w.heap.size, 3, none⟩ (.int .i64 0)).setCell ⟨w.heap.size, 4, none⟩ (.slice none 0 0)).setCell ⟨w.heap.size, 5, none⟩ (.string ⟨#[]⟩)).putObj w5.heap.size (.deferred none)) := mod_putObj _ _ _ rfl
      have hbK := HBZ.out.mod hmK (by omega)
      have HMK : Hid (Mod Non w (((((((W.setCell ⟨w.heap.size, 0, none⟩ (.int .i64 0)).setCell ⟨w.heap.size, 1, none⟩ (.string ⟨#[]⟩)).setCell ⟨w.heap.size, 2, none⟩ (.int .i64 0)).setCell ⟨w.heap.size, 3, none⟩ (.int .i64 0)).setCell ⟨w.heap.size, 4, none⟩ (.slice none 0 0)).setCell ⟨w.heap.size, 5, none⟩ (.string ⟨#[]⟩)).putObj w5.heap.size (.deferred none))) := HMZ.out.trans hmK fun k hk => .inr (by omega)
      refine marks_coll rfl hKZ (results_rowtmp rfl _ _ w.heap.size 37 _ _ rfl hbK Tryz.underlying37 rfl (by kernel_rfl) (.int .i64 2) rfl) ?_
      unfold DhPost
      rw [HN.out]
      exact ⟨rfl, HMK.out⟩
    | true =>
      obtain ⟨a, b, d, A1, c1, htn, rfl, hr1⟩ := HTK.out.yes rfl
      have hq2x : ∀ v : Option (List Nat × List ByteArray), (if 2 ≤ qq ∧ headR (a : Int) ((textsH q).getD 0 ⟨#[]⟩) (b : Int) (d : Int) ((textsH q).drop 2) ((textsH q).getD 1 ⟨#[]⟩) = true then some ([a, b, d], textsH q) else none) = v → decH l = v := by
        intro v hv
        rw [← hv]
        unfold decH
        rw [htn]
        simp only [List.getD_cons_zero, List.getD_cons_succ, HLQ.out]
      have HDQ := Lib.hid hq2x
      clear hq2x
      by_cases hlt2 : qq < 2
      · have d2 : decide ((qq : Int) < 2) = true := decide_eq_true (by omega)
        have HN : Hid (decH l = none) := HDQ.out _ (by rw [if_neg (by omega)])
        go_wp2_with fail
        have HBZ := Lib.hid ((((((HBW.out.set_ 0 (.int .i64 0)).set_ 1 (.string ⟨#[]⟩)).set_ 2 (.int .i64 0)).set_ 3 (.int .i64 0)).set_ 4 (.slice none 0 0)).set_ 5 (.string ⟨#[]⟩))
        have HMZ := Lib.hid ((((((HMW.out.setCell (p := ⟨w.heap.size, 0, none⟩) (.inr (by simp only; omega)) (.int .i64 0)).setCell (p := ⟨w.heap.size, 1, none⟩) (.inr (by simp only; omega)) (.string ⟨#[]⟩)).setCell (p := ⟨w.heap.size, 2, none⟩) (.inr (by simp only; omega)) (.int .i64 0)).setCell (p := ⟨w.heap.size, 3, none⟩) (.inr (by simp only; omega)) (.int .i64 0)).setCell (p := ⟨w.heap.size, 4, none⟩) (.inr (by simp only; omega)) (.slice none 0 0)).setCell (p := ⟨w.heap.size, 5, none⟩) (.inr (by simp only; omega)) (.string ⟨#[]⟩))
        have hKZ : ((((((W.setCell ⟨w.heap.size, 0, none⟩ (.int .i64 0)).setCell ⟨w.heap.size, 1, none⟩ (.string ⟨#[]⟩)).setCell ⟨w.heap.size, 2, none⟩ (.int .i64 0)).setCell ⟨w.heap.size, 3, none⟩ (.int .i64 0)).setCell ⟨w.heap.size, 4, none⟩ (.slice none 0 0)).setCell ⟨w.heap.size, 5, none⟩ (.string ⟨#[]⟩)).heap[w5.heap.size]? = some (.deferred (some [])) := HKS.out _ _ _ _ _ _
        have hmK : Mod (fun k => k = w5.heap.size) ((((((W.setCell ⟨w.heap.size, 0, none⟩ (.int .i64 0)).setCell ⟨w.heap.size, 1, none⟩ (.string ⟨#[]⟩)).setCell ⟨w.heap.size, 2, none⟩ (.int .i64 0)).setCell ⟨w.heap.size, 3, none⟩ (.int .i64 0)).setCell ⟨w.heap.size, 4, none⟩ (.slice none 0 0)).setCell ⟨w.heap.size, 5, none⟩ (.string ⟨#[]⟩)) (((((((W.setCell ⟨w.heap.size, 0, none⟩ (.int .i64 0)).setCell ⟨w.heap.size, 1, none⟩ (.string ⟨#[]⟩)).setCell ⟨w.heap.size, 2, none⟩ (.int .i64 0)).setCell ⟨w.heap.size, 3, none⟩ (.int .i64 0)).setCell ⟨w.heap.size, 4, none⟩ (.slice none 0 0)).setCell ⟨w.heap.size, 5, none⟩ (.string ⟨#[]⟩)).putObj w5.heap.size (.deferred none)) := mod_putObj _ _ _ rfl
        have hbK := HBZ.out.mod hmK (by omega)
        have HMK : Hid (Mod Non w (((((((W.setCell ⟨w.heap.size, 0, none⟩ (.int .i64 0)).setCell ⟨w.heap.size, 1, none⟩ (.string ⟨#[]⟩)).setCell ⟨w.heap.size, 2, none⟩ (.int .i64 0)).setCell ⟨w.heap.size, 3, none⟩ (.int .i64 0)).setCell ⟨w.heap.size, 4, none⟩ (.slice none 0 0)).setCell ⟨w.heap.size, 5, none⟩ (.string ⟨#[]⟩)).putObj w5.heap.size (.deferred none))) := HMZ.out.trans hmK fun k hk => .inr (by omega)
        refine marks_coll rfl hKZ (results_rowtmp rfl _ _ w.heap.size 37 _ _ rfl hbK Tryz.underlying37 rfl (by kernel_rfl) (.int .i64 2) rfl) ?_
        unfold DhPost
        rw [HN.out]
        exact ⟨rfl, HMK.out⟩
      · have d2 : decide ((qq : Int) < 2) = false := decide_eq_false (by omega)
        have hown := H3.out
        obtain ⟨g, rfl⟩ : ∃ g, Aq = some ⟨g, 0, none⟩ := by
          rcases hown.2 with ⟨hv, h0⟩ | ⟨g, cap, cur, hv, _⟩
          · cases hv; omega
          · cases hv; exact ⟨g, rfl⟩
        have hgB := (hown.lt g rfl).1
        have hgW := (hown.lt g rfl).2
        have hrt := Rd.of_own hown
        rw [show (XS.map fun x => Value.string (toT x.l)) = (textsH q).map Value.string by rw [HTX.out, List.map_map]; rfl] at hrt
        obtain ⟨T0, T1, tr, hts⟩ : ∃ T0 T1 tr, textsH q = T0 :: T1 :: tr := by
          match textsH q, HLQ.out with
          | [], h => exact absurd h (by simp; omega)
          | [_], h => exact absurd h (by simp; omega)
          | x :: y :: r, _ => exact ⟨x, y, r, rfl⟩
        rw [hts] at hrt
        have htl : tr.length + 2 = qq := by rw [← HLQ.out, hts]; rfl
        have hdq : ∀ v : Option (List Nat × List ByteArray), (if headR (a : Int) T0 (b : Int) (d : Int) tr T1 = true then some ([a, b, d], T0 :: T1 :: tr) else none) = v → decH l = v := fun v hv => HDQ.out v (by
          rw [← hv, hts]
          simp only [List.getD_cons_zero, List.getD_cons_succ, List.drop_succ_cons, List.drop_zero]
          by_cases hx : headR (a : Int) T0 (b : Int) (d : Int) tr T1 = true
          · rw [if_pos ⟨by omega, hx⟩, if_pos hx]
          · rw [if_neg (fun h => hx h.2), if_neg hx])
        have HDR := Lib.hid hdq
        have e0 : W.cell? ⟨g, 0, none⟩ = some (.string T0) := by
          obtain ⟨_, _, e, u, hu, hc⟩ := hrt.at_ (k := 0) (by omega)
          cases e
          cases hu
          exact hc
        have e1 : W.cell? ⟨g, 1, none⟩ = some (.string T1) := by
          obtain ⟨_, _, e, u, hu, hc⟩ := hrt.at_ (k := 1) (by omega)
          cases e
          cases hu
          exact hc
        have hrc := hrt.cut (k := 2) (cap := cq) (by omega) hq1
        rw [List.map_cons, List.map_cons, List.drop_succ_cons, List.drop_succ_cons, List.drop_zero] at hrc
        have HRC := Lib.hid hrc
        obtain ⟨B, O, rfl, k0, k1, k2⟩ := rd3 (hr1.mod0 H4.out)
        have hB := World.block_lt_of_cell? W _ k0
        simp only at hB
        have hB' : B ≠ W.heap.size := by omega
        have hg' : g ≠ W.heap.size := by omega
        have h7' : w1.heap.size ≠ W.heap.size := by have := HB7.out.lt; omega
        have i0 : (0 : Int) < (qq : Int) := by omega
        have i1 : (1 : Int) < (qq : Int) := by omega
        have j0 : 0 < qq := by omega
        have j1 : 1 < qq := by omega
        have i2 : (2 : Int) ≤ (qq : Int) := by omega
        have i3 : (2 : Int) ≤ (cq : Int) := by omega
        have i4 : (qq : Int) ≤ (cq : Int) := by omega
        have HTL := Lib.hid htl
        clear hown hrt hts htl hdq hrc hr1 htn H3
        by_cases hc22 : cq = 2
        · subst hc22
          obtain rfl : qq = 2 := by omega
          go_wp2_with fail
          go_region_held3 (fun w' => w'.cell? ⟨B, O, none⟩ = some (.int .i64 (a : Int)) ∧ w'.cell? ⟨B, O + 1, none⟩ = some (.int .i64 (b : Int)) ∧ w'.cell? ⟨B, O + 2, none⟩ = some (.int .i64 (d : Int)) ∧ w'.cell? ⟨w1.heap.size, 0, none⟩ = some (.slice (some ⟨g, 0, none⟩) 2 2) ∧ w'.cell? ⟨g, 0, none⟩ = some (.string T0) ∧ w'.cell? ⟨g, 1, none⟩ = some (.string T1)) (first | go_keep) (first | fail)
          obtain ⟨w4, hw4⟩ : ∃ w4, w4 = (W.alloc (.cells #[.int .i64 (a : Int), .string T0, .int .i64 (b : Int), .int .i64 (d : Int), .slice (some ⟨g, 0, none⟩) 0 0, .string T1] 37)).drew := ⟨_, rfl⟩
          have hm4 : Mod Non W w4 := by rw [hw4]; exact ((Mod.refl Non W).alloc _).drew
          have hx4 : Blk w4 W.heap.size 37 #[.int .i64 (a : Int), .string T0, .int .i64 (b : Int), .int .i64 (d : Int), .slice (some ⟨g, 0, none⟩) 0 0, .string T1] := by rw [hw4]; exact (Blk.new W _ _).drew
          have HB4 := Lib.hid (HBW.out.mod hm4 fun h => h)
          have HM4 := Lib.hid (HMW.out.trans0 hm4)
          have HS4 := Lib.hid hm4
          rw [← hw4]
          clear hw4 k0 k1 k2 e0 e1 g7 r0 r1 r2 r3 r4 r5 fr0 fr1 fr2 fr3 fr4 fr5
          have x0 : w4.cell? ⟨W.heap.size, 0, none⟩ = some (.int .i64 (a : Int)) := hx4.cell 0
          have x1 : w4.cell? ⟨W.heap.size, 1, none⟩ = some (.string T0) := hx4.cell 1
          have x2 : w4.cell? ⟨W.heap.size, 2, none⟩ = some (.int .i64 (b : Int)) := hx4.cell 2
          have x3 : w4.cell? ⟨W.heap.size, 3, none⟩ = some (.int .i64 (d : Int)) := hx4.cell 3
          have x4 : w4.cell? ⟨W.heap.size, 4, none⟩ = some (.slice (some ⟨g, 0, none⟩) 0 0) := hx4.cell 4
          have x5 : w4.cell? ⟨W.heap.size, 5, none⟩ = some (.string T1) := hx4.cell 5
          have hrt4 : Rd w4 (some ⟨g, 0, none⟩) (0) (tr.map Value.string) := by
            have h9 := HRC.out.mod0 hm4
            simpa using h9
          obtain ⟨t, ht⟩ : ∃ t, headR (a : Int) T0 (b : Int) (d : Int) tr T1 = t := ⟨_, rfl⟩
          have htr := headRight_any a T0 b d (some ⟨g, 0, none⟩) (0) (0) tr T1 w4 hrt4 (by omega)
          rw [ht] at htr
          unfold hCells at htr
          have HTR := Lib.hid htr
          have HRT4 := Lib.hid hrt4
          have HX4 := Lib.hid hx4
          have HHT := Lib.hid ht
          clear hx4 htr hm4 hrt4 ht
          go_wp2_with fail
          refine HTR.out.mono ?_
          rintro r w6 ⟨rfl, hm6⟩
          have HM6 := Lib.hid (HM4.out.trans0 hm6)
          have HS6 := Lib.hid (HS4.out.trans0 hm6)
          have hb6 := HB4.out.mod hm6 fun h => h
          have hx6 := HX4.out.mod hm6 fun h => h
          have HRT6 := Lib.hid (HRT4.out.mod0 hm6)
          have HB6 := Lib.hid hb6
          clear x0 x1 x2 x3 x4 x5
          have r0 : w6.cell? ⟨w.heap.size, 0, none⟩ = some (.int .i64 0) := hb6.cell 0
          have fr0 := hb6.frozen 0
          have r1 : w6.cell? ⟨w.heap.size, 1, none⟩ = some (.string ⟨#[]⟩) := hb6.cell 1
          have fr1 := hb6.frozen 1
          have r2 : w6.cell? ⟨w.heap.size, 2, none⟩ = some (.int .i64 0) := hb6.cell 2
          have fr2 := hb6.frozen 2
          have r3 : w6.cell? ⟨w.heap.size, 3, none⟩ = some (.int .i64 0) := hb6.cell 3
          have fr3 := hb6.frozen 3
          have r4 : w6.cell? ⟨w.heap.size, 4, none⟩ = some (.slice none 0 0) := hb6.cell 4
          have fr4 := hb6.frozen 4
          have r5 : w6.cell? ⟨w.heap.size, 5, none⟩ = some (.string ⟨#[]⟩) := hb6.cell 5
          have fr5 := hb6.frozen 5
          have x0 : w6.cell? ⟨W.heap.size, 0, none⟩ = some (.int .i64 (a : Int)) := hx6.cell 0
          have x1 : w6.cell? ⟨W.heap.size, 1, none⟩ = some (.string T0) := hx6.cell 1
          have x2 : w6.cell? ⟨W.heap.size, 2, none⟩ = some (.int .i64 (b : Int)) := hx6.cell 2
          have x3 : w6.cell? ⟨W.heap.size, 3, none⟩ = some (.int .i64 (d : Int)) := hx6.cell 3
          have x4 : w6.cell? ⟨W.heap.size, 4, none⟩ = some (.slice (some ⟨g, 0, none⟩) 0 0) := hx6.cell 4
          have x5 : w6.cell? ⟨W.heap.size, 5, none⟩ = some (.string T1) := hx6.cell 5
          have hK6 : w6.heap[w5.heap.size]? = some (.deferred (some [])) := (HS6.out.block w5.heap.size hKlt fun h => h).trans HK.out
          have hsz6 := HS6.out.size
          clear HKS
          have HKS : Hid (∀ a0 a1 a2 a3 a4 a5, (((((((w6.setCell ⟨w.heap.size, 0, none⟩ a0).setCell ⟨w.heap.size, 1, none⟩ a1).setCell ⟨w.heap.size, 2, none⟩ a2).setCell ⟨w.heap.size, 3, none⟩ a3).setCell ⟨w.heap.size, 4, none⟩ a4).setCell ⟨w.heap.size, 5, none⟩ a5)).heap[w5.heap.size]? = some (.deferred (some []))) := fun a0 a1 a2 a3 a4 a5 => by
            have hms : Mod (fun k => k = w.heap.size) w6 ((((((w6.setCell ⟨w.heap.size, 0, none⟩ a0).setCell ⟨w.heap.size, 1, none⟩ a1).setCell ⟨w.heap.size, 2, none⟩ a2).setCell ⟨w.heap.size, 3, none⟩ a3).setCell ⟨w.heap.size, 4, none⟩ a4).setCell ⟨w.heap.size, 5, none⟩ a5) := ((((((Mod.refl _ _).set1 0 a0).set1 1 a1).set1 2 a2).set1 3 a3).set1 4 a4).set1 5 a5
            exact (hms.block w5.heap.size (by omega) (by omega)).trans hK6
          clear hb6 hx6 hm6 hK6
          cases t with
          | false =>
            have HN : Hid (decH l = none) := HDR.out _ (by rw [HHT.out, if_neg (by simp)])
            go_wp2_with fail
            have HBZ := Lib.hid ((((((HB6.out.set_ 0 (.int .i64 0)).set_ 1 (.string ⟨#[]⟩)).set_ 2 (.int .i64 0)).set_ 3 (.int .i64 0)).set_ 4 (.slice none 0 0)).set_ 5 (.string ⟨#[]⟩))
            have HMZ := Lib.hid ((((((HM6.out.setCell (p := ⟨w.heap.size, 0, none⟩) (.inr (by simp only; omega)) (.int .i64 0)).setCell (p := ⟨w.heap.size, 1, none⟩) (.inr (by simp only; omega)) (.string ⟨#[]⟩)).setCell (p := ⟨w.heap.size, 2, none⟩) (.inr (by simp only; omega)) (.int .i64 0)).setCell (p := ⟨w.heap.size, 3, none⟩) (.inr (by simp only; omega)) (.int .i64 0)).setCell (p := ⟨w.heap.size, 4, none⟩) (.inr (by simp only; omega)) (.slice none 0 0)).setCell (p := ⟨w.heap.size, 5, none⟩) (.inr (by simp only; omega)) (.string ⟨#[]⟩))
            have hKZ : ((((((w6.setCell ⟨w.heap.size, 0, none⟩ (.int .i64 0)).setCell ⟨w.heap.size, 1, none⟩ (.string ⟨#[]⟩)).setCell ⟨w.heap.size, 2, none⟩ (.int .i64 0)).setCell ⟨w.heap.size, 3, none⟩ (.int .i64 0)).setCell ⟨w.heap.size, 4, none⟩ (.slice none 0 0)).setCell ⟨w.heap.size, 5, none⟩ (.string ⟨#[]⟩)).heap[w5.heap.size]? = some (.deferred (some [])) := HKS.out _ _ _ _ _ _
            have hmK : Mod (fun k => k = w5.heap.size) ((((((w6.setCell ⟨w.heap.size, 0, none⟩ (.int .i64 0)).setCell ⟨w.heap.size, 1, none⟩ (.string ⟨#[]⟩)).setCell ⟨w.heap.size, 2, none⟩ (.int .i64 0)).setCell ⟨w.heap.size, 3, none⟩ (.int .i64 0)).setCell ⟨w.heap.size, 4, none⟩ (.slice none 0 0)).setCell ⟨w.heap.size, 5, none⟩ (.string ⟨#[]⟩)) (((((((w6.setCell ⟨w.heap.size, 0, none⟩ (.int .i64 0)).setCell ⟨w.heap.size, 1, none⟩ (.string ⟨#[]⟩)).setCell ⟨w.heap.size, 2, none⟩ (.int .i64 0)).setCell ⟨w.heap.size, 3, none⟩ (.int .i64 0)).setCell ⟨w.heap.size, 4, none⟩ (.slice none 0 0)).setCell ⟨w.heap.size, 5, none⟩ (.string ⟨#[]⟩)).putObj w5.heap.size (.deferred none)) := mod_putObj _ _ _ rfl
            have hbK := HBZ.out.mod hmK (by omega)
            have HMK : Hid (Mod Non w (((((((w6.setCell ⟨w.heap.size, 0, none⟩ (.int .i64 0)).setCell ⟨w.heap.size, 1, none⟩ (.string ⟨#[]⟩)).setCell ⟨w.heap.size, 2, none⟩ (.int .i64 0)).setCell ⟨w.heap.size, 3, none⟩ (.int .i64 0)).setCell ⟨w.heap.size, 4, none⟩ (.slice none 0 0)).setCell ⟨w.heap.size, 5, none⟩ (.string ⟨#[]⟩)).putObj w5.heap.size (.deferred none))) := HMZ.out.trans hmK fun k hk => .inr (by omega)
            refine marks_coll rfl hKZ (results_rowtmp rfl _ _ w.heap.size 37 _ _ rfl hbK Tryz.underlying37 rfl (by kernel_rfl) (.int .i64 2) rfl) ?_
            unfold DhPost
            rw [HN.out]
            exact ⟨rfl, HMK.out⟩
          | true =>
            have HN : Hid (decH l = some ([a, b, d], T0 :: T1 :: tr)) := HDR.out _ (by rw [HHT.out, if_pos rfl])
            have hres : w.heap.size ≠ W.heap.size := by have := HBW.out.lt; omega
            go_wp2_with fail
            have HBZ := Lib.hid ((((((HB6.out.set_ 0 (.int .i64 (a : Int))).set_ 1 (.string T0)).set_ 2 (.int .i64 (b : Int))).set_ 3 (.int .i64 (d : Int))).set_ 4 (.slice (some ⟨g, 0, none⟩) 0 0)).set_ 5 (.string T1))
            have HMZ := Lib.hid ((((((HM6.out.setCell (p := ⟨w.heap.size, 0, none⟩) (.inr (by simp only; omega)) (.int .i64 (a : Int))).setCell (p := ⟨w.heap.size, 1, none⟩) (.inr (by simp only; omega)) (.string T0)).setCell (p := ⟨w.heap.size, 2, none⟩) (.inr (by simp only; omega)) (.int .i64 (b : Int))).setCell (p := ⟨w.heap.size, 3, none⟩) (.inr (by simp only; omega)) (.int .i64 (d : Int))).setCell (p := ⟨w.heap.size, 4, none⟩) (.inr (by simp only; omega)) (.slice (some ⟨g, 0, none⟩) 0 0)).setCell (p := ⟨w.heap.size, 5, none⟩) (.inr (by simp only; omega)) (.string T1))
            have hKZ : ((((((w6.setCell ⟨w.heap.size, 0, none⟩ (.int .i64 (a : Int))).setCell ⟨w.heap.size, 1, none⟩ (.string T0)).setCell ⟨w.heap.size, 2, none⟩ (.int .i64 (b : Int))).setCell ⟨w.heap.size, 3, none⟩ (.int .i64 (d : Int))).setCell ⟨w.heap.size, 4, none⟩ (.slice (some ⟨g, 0, none⟩) 0 0)).setCell ⟨w.heap.size, 5, none⟩ (.string T1)).heap[w5.heap.size]? = some (.deferred (some [])) := HKS.out _ _ _ _ _ _
            have hmK : Mod (fun k => k = w5.heap.size) ((((((w6.setCell ⟨w.heap.size, 0, none⟩ (.int .i64 (a : Int))).setCell ⟨w.heap.size, 1, none⟩ (.string T0)).setCell ⟨w.heap.size, 2, none⟩ (.int .i64 (b : Int))).setCell ⟨w.heap.size, 3, none⟩ (.int .i64 (d : Int))).setCell ⟨w.heap.size, 4, none⟩ (.slice (some ⟨g, 0, none⟩) 0 0)).setCell ⟨w.heap.size, 5, none⟩ (.string T1)) (((((((w6.setCell ⟨w.heap.size, 0, none⟩ (.int .i64 (a : Int))).setCell ⟨w.heap.size, 1, none⟩ (.string T0)).setCell ⟨w.heap.size, 2, none⟩ (.int .i64 (b : Int))).setCell ⟨w.heap.size, 3, none⟩ (.int .i64 (d : Int))).setCell ⟨w.heap.size, 4, none⟩ (.slice (some ⟨g, 0, none⟩) 0 0)).setCell ⟨w.heap.size, 5, none⟩ (.string T1)).putObj w5.heap.size (.deferred none)) := mod_putObj _ _ _ rfl
            have hbK := HBZ.out.mod hmK (by omega)
            have HMK : Hid (Mod Non w (((((((w6.setCell ⟨w.heap.size, 0, none⟩ (.int .i64 (a : Int))).setCell ⟨w.heap.size, 1, none⟩ (.string T0)).setCell ⟨w.heap.size, 2, none⟩ (.int .i64 (b : Int))).setCell ⟨w.heap.size, 3, none⟩ (.int .i64 (d : Int))).setCell ⟨w.heap.size, 4, none⟩ (.slice (some ⟨g, 0, none⟩) 0 0)).setCell ⟨w.heap.size, 5, none⟩ (.string T1)).putObj w5.heap.size (.deferred none))) := HMZ.out.trans hmK fun k hk => .inr (by omega)
            refine marks_coll rfl hKZ (results_rowtmp rfl _ _ w.heap.size 37 _ _ rfl hbK Tryz.underlying37 rfl (by kernel_rfl) (.int .i64 0) rfl) ?_
            unfold DhPost
            rw [HN.out]
            simp only [List.getD_cons_zero, List.getD_cons_succ]
            refine ⟨some ⟨g, 0, none⟩, 0, 0, rfl, by rw [List.length_cons, List.length_cons]; have := HTL.out; omega, ?_, by omega, by omega, HMK.out⟩
            have hms : Mod (fun k => k = w.heap.size) w6 ((((((w6.setCell ⟨w.heap.size, 0, none⟩ (.int .i64 (a : Int))).setCell ⟨w.heap.size, 1, none⟩ (.string T0)).setCell ⟨w.heap.size, 2, none⟩ (.int .i64 (b : Int))).setCell ⟨w.heap.size, 3, none⟩ (.int .i64 (d : Int))).setCell ⟨w.heap.size, 4, none⟩ (.slice (some ⟨g, 0, none⟩) 0 0)).setCell ⟨w.heap.size, 5, none⟩ (.string T1)) := (((((((Mod.refl _ _).set1 0 _).set1 1 _).set1 2 _).set1 3 _).set1 4 _).set1 5 _)
            refine (HRT6.out.mod hms fun _ k hk e => ?_).mod hmK fun _ k hk e => ?_
            all_goals
              have hk2 : g = k := by simpa [blkOf] using hk
              omega
        · have hc23 : ¬ (cq : Int) = 2 := by omega
          go_wp2_with fail
          go_region_held3 (fun w' => w'.cell? ⟨B, O, none⟩ = some (.int .i64 (a : Int)) ∧ w'.cell? ⟨B, O + 1, none⟩ = some (.int .i64 (b : Int)) ∧ w'.cell? ⟨B, O + 2, none⟩ = some (.int .i64 (d : Int)) ∧ w'.cell? ⟨w1.heap.size, 0, none⟩ = some (.slice (some ⟨g, 0, none⟩) qq cq) ∧ w'.cell? ⟨g, 0, none⟩ = some (.string T0) ∧ w'.cell? ⟨g, 1, none⟩ = some (.string T1)) (first | go_keep) (first | fail)
          obtain ⟨w4, hw4⟩ : ∃ w4, w4 = (W.alloc (.cells #[.int .i64 (a : Int), .string T0, .int .i64 (b : Int), .int .i64 (d : Int), .slice (some ⟨g, 2, none⟩) (qq - 2) (cq - 2), .string T1] 37)).drew := ⟨_, rfl⟩
          have hm4 : Mod Non W w4 := by rw [hw4]; exact ((Mod.refl Non W).alloc _).drew
          have hx4 : Blk w4 W.heap.size 37 #[.int .i64 (a : Int), .string T0, .int .i64 (b : Int), .int .i64 (d : Int), .slice (some ⟨g, 2, none⟩) (qq - 2) (cq - 2), .string T1] := by rw [hw4]; exact (Blk.new W _ _).drew
          have HB4 := Lib.hid (HBW.out.mod hm4 fun h => h)
          have HM4 := Lib.hid (HMW.out.trans0 hm4)
          have HS4 := Lib.hid hm4
          rw [← hw4]
          clear hw4 k0 k1 k2 e0 e1 g7 r0 r1 r2 r3 r4 r5 fr0 fr1 fr2 fr3 fr4 fr5
          have x0 : w4.cell? ⟨W.heap.size, 0, none⟩ = some (.int .i64 (a : Int)) := hx4.cell 0
          have x1 : w4.cell? ⟨W.heap.size, 1, none⟩ = some (.string T0) := hx4.cell 1
          have x2 : w4.cell? ⟨W.heap.size, 2, none⟩ = some (.int .i64 (b : Int)) := hx4.cell 2
          have x3 : w4.cell? ⟨W.heap.size, 3, none⟩ = some (.int .i64 (d : Int)) := hx4.cell 3
          have x4 : w4.cell? ⟨W.heap.size, 4, none⟩ = some (.slice (some ⟨g, 2, none⟩) (qq - 2) (cq - 2)) := hx4.cell 4
          have x5 : w4.cell? ⟨W.heap.size, 5, none⟩ = some (.string T1) := hx4.cell 5
          have hrt4 : Rd w4 (some ⟨g, 2, none⟩) (qq - 2) (tr.map Value.string) := by
            have h9 := HRC.out.mod0 hm4
            rw [if_neg hc22] at h9
            simpa [Addr.add] using h9
          obtain ⟨t, ht⟩ : ∃ t, headR (a : Int) T0 (b : Int) (d : Int) tr T1 = t := ⟨_, rfl⟩
          have htr := headRight_any a T0 b d (some ⟨g, 2, none⟩) (qq - 2) (cq - 2) tr T1 w4 hrt4 (by omega)
          rw [ht] at htr
          unfold hCells at htr
          have HTR := Lib.hid htr
          have HRT4 := Lib.hid hrt4
          have HX4 := Lib.hid hx4
          have HHT := Lib.hid ht
          clear hx4 htr hm4 hrt4 ht
          go_wp2_with fail
          refine HTR.out.mono ?_
          rintro r w6 ⟨rfl, hm6⟩
          have HM6 := Lib.hid (HM4.out.trans0 hm6)
          have HS6 := Lib.hid (HS4.out.trans0 hm6)
          have hb6 := HB4.out.mod hm6 fun h => h
          have hx6 := HX4.out.mod hm6 fun h => h
          have HRT6 := Lib.hid (HRT4.out.mod0 hm6)
          have HB6 := Lib.hid hb6
          clear x0 x1 x2 x3 x4 x5
          have r0 : w6.cell? ⟨w.heap.size, 0, none⟩ = some (.int .i64 0) := hb6.cell 0
          have fr0 := hb6.frozen 0
          have r1 : w6.cell? ⟨w.heap.size, 1, none⟩ = some (.string ⟨#[]⟩) := hb6.cell 1
          have fr1 := hb6.frozen 1
          have r2 : w6.cell? ⟨w.heap.size, 2, none⟩ = some (.int .i64 0) := hb6.cell 2
          have fr2 := hb6.frozen 2
          have r3 : w6.cell? ⟨w.heap.size, 3, none⟩ = some (.int .i64 0) := hb6.cell 3
          have fr3 := hb6.frozen 3
          have r4 : w6.cell? ⟨w.heap.size, 4, none⟩ = some (.slice none 0 0) := hb6.cell 4
          have fr4 := hb6.frozen 4
          have r5 : w6.cell? ⟨w.heap.size, 5, none⟩ = some (.string ⟨#[]⟩) := hb6.cell 5
          have fr5 := hb6.frozen 5
          have x0 : w6.cell? ⟨W.heap.size, 0, none⟩ = some (.int .i64 (a : Int)) := hx6.cell 0
          have x1 : w6.cell? ⟨W.heap.size, 1, none⟩ = some (.string T0) := hx6.cell 1
          have x2 : w6.cell? ⟨W.heap.size, 2, none⟩ = some (.int .i64 (b : Int)) := hx6.cell 2
          have x3 : w6.cell? ⟨W.heap.size, 3, none⟩ = some (.int .i64 (d : Int)) := hx6.cell 3
          have x4 : w6.cell? ⟨W.heap.size, 4, none⟩ = some (.slice (some ⟨g, 2, none⟩) (qq - 2) (cq - 2)) := hx6.cell 4
          have x5 : w6.cell? ⟨W.heap.size, 5, none⟩ = some (.string T1) := hx6.cell 5
          have hK6 : w6.heap[w5.heap.size]? = some (.deferred (some [])) := (HS6.out.block w5.heap.size hKlt fun h => h).trans HK.out
          have hsz6 := HS6.out.size
          clear HKS
          have HKS : Hid (∀ a0 a1 a2 a3 a4 a5, (((((((w6.setCell ⟨w.heap.size, 0, none⟩ a0).setCell ⟨w.heap.size, 1, none⟩ a1).setCell ⟨w.heap.size, 2, none⟩ a2).setCell ⟨w.heap.size, 3, none⟩ a3).setCell ⟨w.heap.size, 4, none⟩ a4).setCell ⟨w.heap.size, 5, none⟩ a5)).heap[w5.heap.size]? = some (.deferred (some []))) := fun a0 a1 a2 a3 a4 a5 => by
            have hms : Mod (fun k => k = w.heap.size) w6 ((((((w6.setCell ⟨w.heap.size, 0, none⟩ a0).setCell ⟨w.heap.size, 1, none⟩ a1).setCell ⟨w.heap.size, 2, none⟩ a2).setCell ⟨w.heap.size, 3, none⟩ a3).setCell ⟨w.heap.size, 4, none⟩ a4).setCell ⟨w.heap.size, 5, none⟩ a5) := ((((((Mod.refl _ _).set1 0 a0).set1 1 a1).set1 2 a2).set1 3 a3).set1 4 a4).set1 5 a5
            exact (hms.block w5.heap.size (by omega) (by omega)).trans hK6
          clear hb6 hx6 hm6 hK6
          cases t with
          | false =>
            have HN : Hid (decH l = none) := HDR.out _ (by rw [HHT.out, if_neg (by simp)])
            go_wp2_with fail
            have HBZ := Lib.hid ((((((HB6.out.set_ 0 (.int .i64 0)).set_ 1 (.string ⟨#[]⟩)).set_ 2 (.int .i64 0)).set_ 3 (.int .i64 0)).set_ 4 (.slice none 0 0)).set_ 5 (.string ⟨#[]⟩))
            have HMZ := Lib.hid ((((((HM6.out.setCell (p := ⟨w.heap.size, 0, none⟩) (.inr (by simp only; omega)) (.int .i64 0)).setCell (p := ⟨w.heap.size, 1, none⟩) (.inr (by simp only; omega)) (.string ⟨#[]⟩)).setCell (p := ⟨w.heap.size, 2, none⟩) (.inr (by simp only; omega)) (.int .i64 0)).setCell (p := ⟨w.heap.size, 3, none⟩) (.inr (by simp only; omega)) (.int .i64 0)).setCell (p := ⟨w.heap.size, 4, none⟩) (.inr (by simp only; omega)) (.slice none 0 0)).setCell (p := ⟨w.heap.size, 5, none⟩) (.inr (by simp only; omega)) (.string ⟨#[]⟩))
            have hKZ : ((((((w6.setCell ⟨w.heap.size, 0, none⟩ (.int .i64 0)).setCell ⟨w.heap.size, 1, none⟩ (.string ⟨#[]⟩)).setCell ⟨w.heap.size, 2, none⟩ (.int .i64 0)).setCell ⟨w.heap.size, 3, none⟩ (.int .i64 0)).setCell ⟨w.heap.size, 4, none⟩ (.slice none 0 0)).setCell ⟨w.heap.size, 5, none⟩ (.string ⟨#[]⟩)).heap[w5.heap.size]? = some (.deferred (some [])) := HKS.out _ _ _ _ _ _
            have hmK : Mod (fun k => k = w5.heap.size) ((((((w6.setCell ⟨w.heap.size, 0, none⟩ (.int .i64 0)).setCell ⟨w.heap.size, 1, none⟩ (.string ⟨#[]⟩)).setCell ⟨w.heap.size, 2, none⟩ (.int .i64 0)).setCell ⟨w.heap.size, 3, none⟩ (.int .i64 0)).setCell ⟨w.heap.size, 4, none⟩ (.slice none 0 0)).setCell ⟨w.heap.size, 5, none⟩ (.string ⟨#[]⟩)) (((((((w6.setCell ⟨w.heap.size, 0, none⟩ (.int .i64 0)).setCell ⟨w.heap.size, 1, none⟩ (.string ⟨#[]⟩)).setCell ⟨w.heap.size, 2, none⟩ (.int .i64 0)).setCell ⟨w.heap.size, 3, none⟩ (.int .i64 0)).setCell ⟨w.heap.size, 4, none⟩ (.slice none 0 0)).setCell ⟨w.heap.size, 5, none⟩ (.string ⟨#[]⟩)).putObj w5.heap.size (.deferred none)) := mod_putObj _ _ _ rfl
            have hbK := HBZ.out.mod hmK (by omega)
            have HMK : Hid (Mod Non w (((((((w6.setCell ⟨w.heap.size, 0, none⟩ (.int .i64 0)).setCell ⟨w.heap.size, 1, none⟩ (.string ⟨#[]⟩)).setCell ⟨w.heap.size, 2, none⟩ (.int .i64 0)).setCell ⟨w.heap.size, 3, none⟩ (.int .i64 0)).setCell ⟨w.heap.size, 4, none⟩ (.slice none 0 0)).setCell ⟨w.heap.size, 5, none⟩ (.string ⟨#[]⟩)).putObj w5.heap.size (.deferred none))) := HMZ.out.trans hmK fun k hk => .inr (by omega)
            refine marks_coll rfl hKZ (results_rowtmp rfl _ _ w.heap.size 37 _ _ rfl hbK Tryz.underlying37 rfl (by kernel_rfl) (.int .i64 2) rfl) ?_
            unfold DhPost
            rw [HN.out]
            exact ⟨rfl, HMK.out⟩
          | true =>
            have HN : Hid (decH l = some ([a, b, d], T0 :: T1 :: tr)) := HDR.out _ (by rw [HHT.out, if_pos rfl])
            have hres : w.heap.size ≠ W.heap.size := by have := HBW.out.lt; omega
            go_wp2_with fail
            have HBZ := Lib.hid ((((((HB6.out.set_ 0 (.int .i64 (a : Int))).set_ 1 (.string T0)).set_ 2 (.int .i64 (b : Int))).set_ 3 (.int .i64 (d : Int))).set_ 4 (.slice (some ⟨g, 2, none⟩) (qq - 2) (cq - 2))).set_ 5 (.string T1))
            have HMZ := Lib.hid ((((((HM6.out.setCell (p := ⟨w.heap.size, 0, none⟩) (.inr (by simp only; omega)) (.int .i64 (a : Int))).setCell (p := ⟨w.heap.size, 1, none⟩) (.inr (by simp only; omega)) (.string T0)).setCell (p := ⟨w.heap.size, 2, none⟩) (.inr (by simp only; omega)) (.int .i64 (b : Int))).setCell (p := ⟨w.heap.size, 3, none⟩) (.inr (by simp only; omega)) (.int .i64 (d : Int))).setCell (p := ⟨w.heap.size, 4, none⟩) (.inr (by simp only; omega)) (.slice (some ⟨g, 2, none⟩) (qq - 2) (cq - 2))).setCell (p := ⟨w.heap.size, 5, none⟩) (.inr (by simp only; omega)) (.string T1))
            have hKZ : ((((((w6.setCell ⟨w.heap.size, 0, none⟩ (.int .i64 (a : Int))).setCell ⟨w.heap.size, 1, none⟩ (.string T0)).setCell ⟨w.heap.size, 2, none⟩ (.int .i64 (b : Int))).setCell ⟨w.heap.size, 3, none⟩ (.int .i64 (d : Int))).setCell ⟨w.heap.size, 4, none⟩ (.slice (some ⟨g, 2, none⟩) (qq - 2) (cq - 2))).setCell ⟨w.heap.size, 5, none⟩ (.string T1)).heap[w5.heap.size]? = some (.deferred (some [])) := HKS.out _ _ _ _ _ _
            have hmK : Mod (fun k => k = w5.heap.size) ((((((w6.setCell ⟨w.heap.size, 0, none⟩ (.int .i64 (a : Int))).setCell ⟨w.heap.size, 1, none⟩ (.string T0)).setCell ⟨w.heap.size, 2, none⟩ (.int .i64 (b : Int))).setCell ⟨w.heap.size, 3, none⟩ (.int .i64 (d : Int))).setCell ⟨w.heap.size, 4, none⟩ (.slice (some ⟨g, 2, none⟩) (qq - 2) (cq - 2))).setCell ⟨w.heap.size, 5, none⟩ (.string T1)) (((((((w6.setCell ⟨w.heap.size, 0, none⟩ (.int .i64 (a : Int))).setCell ⟨w.heap.size, 1, none⟩ (.string T0)).setCell ⟨w.heap.size, 2, none⟩ (.int .i64 (b : Int))).setCell ⟨w.heap.size, 3, none⟩ (.int .i64 (d : Int))).setCell ⟨w.heap.size, 4, none⟩ (.slice (some ⟨g, 2, none⟩) (qq - 2) (cq - 2))).setCell ⟨w.heap.size, 5, none⟩ (.string T1)).putObj w5.heap.size (.deferred none)) := mod_putObj _ _ _ rfl
            have hbK := HBZ.out.mod hmK (by omega)
            have HMK : Hid (Mod Non w (((((((w6.setCell ⟨w.heap.size, 0, none⟩ (.int .i64 (a : Int))).setCell ⟨w.heap.size, 1, none⟩ (.string T0)).setCell ⟨w.heap.size, 2, none⟩ (.int .i64 (b : Int))).setCell ⟨w.heap.size, 3, none⟩ (.int .i64 (d : Int))).setCell ⟨w.heap.size, 4, none⟩ (.slice (some ⟨g, 2, none⟩) (qq - 2) (cq - 2))).setCell ⟨w.heap.size, 5, none⟩ (.string T1)).putObj w5.heap.size (.deferred none))) := HMZ.out.trans hmK fun k hk => .inr (by omega)
            refine marks_coll rfl hKZ (results_rowtmp rfl _ _ w.heap.size 37 _ _ rfl hbK Tryz.underlying37 rfl (by kernel_rfl) (.int .i64 0) rfl) ?_
            unfold DhPost
            rw [HN.out]
            simp only [List.getD_cons_zero, List.getD_cons_succ]
            refine ⟨some ⟨g, 2, none⟩, qq - 2, cq - 2, rfl, by rw [List.length_cons, List.length_cons]; have := HTL.out; omega, ?_, by omega, by omega, HMK.out⟩
            have hms : Mod (fun k => k = w.heap.size) w6 ((((((w6.setCell ⟨w.heap.size, 0, none⟩ (.int .i64 (a : Int))).setCell ⟨w.heap.size, 1, none⟩ (.string T0)).setCell ⟨w.heap.size, 2, none⟩ (.int .i64 (b : Int))).setCell ⟨w.heap.size, 3, none⟩ (.int .i64 (d : Int))).setCell ⟨w.heap.size, 4, none⟩ (.slice (some ⟨g, 2, none⟩) (qq - 2) (cq - 2))).setCell ⟨w.heap.size, 5, none⟩ (.string T1)) := (((((((Mod.refl _ _).set1 0 _).set1 1 _).set1 2 _).set1 3 _).set1 4 _).set1 5 _)
            refine (HRT6.out.mod hms fun _ k hk e => ?_).mod hmK fun _ k hk e => ?_
            all_goals
              have hk2 : g = k := by simpa [blkOf] using hk
              omega
  case stop => rintro c0 pre W hpre h; exact h.elim

end Go.Proofs.YtgnpmmhpeianpaaGreatDoor

/- rows: the texts of a head's bytes, plain: when none can be right; the pieces by number. -/
namespace Go.Proofs.YtgnpmmhpeianpaaGreatDoor
open Go.RowKit

theorem popAux_le : ∀ f x, Lib.popAux f x ≤ f := by
  intro f
  induction f with
  | zero => intro x; simp [Lib.popAux]
  | succ f ih =>
    intro x
    have := ih (x / 2)
    simp only [Lib.popAux]
    omega
theorem onesI_le (n : Int) : onesI n ≤ 64 := popAux_le 64 _

theorem pcH_nil : piecesH [] = [] := by rw [piecesH]; rfl
theorem pcH_cons (q : List UInt8) (h : q.length ≠ 0) : piecesH q = q.take 32 :: piecesH (q.drop 32) := by rw [piecesH, dif_neg h]
/-- where the length is no multiple of 32, a piece is short. -/
theorem pcH_short (m : Nat) : ∀ q : List UInt8, q.length ≤ m → q.length % 32 ≠ 0 → ∃ x ∈ piecesH q, x.length ≠ 32 := by
  induction m with
  | zero => intro q h h2; omega
  | succ m ih =>
    intro q h h2
    rw [pcH_cons q (by omega)]
    by_cases h3 : 32 ≤ q.length
    · obtain ⟨x, hx, hl⟩ := ih (q.drop 32) (by rw [List.length_drop]; omega) (by rw [List.length_drop]; omega)
      exact ⟨x, List.mem_cons_of_mem _ hx, hl⟩
    · exact ⟨_, List.mem_cons_self .., by rw [List.length_take]; omega⟩
theorem pcH_long (m : Nat) : ∀ q : List UInt8, q.length ≤ m → q.length ≤ 32 * (piecesH q).length := by
  induction m with
  | zero => intro q h; omega
  | succ m ih =>
    intro q h
    by_cases h0 : q.length = 0
    · omega
    · have := ih (q.drop 32) (by rw [List.length_drop]; omega)
      rw [pcH_cons q h0, List.length_cons]
      rw [List.length_drop] at this
      omega
theorem isH_toT (l : List UInt8) : isH (toT l) = decide (l.length = 32) := by
  unfold isH toT
  simp [ByteArray.size]
/-- three guards of the reference: where one holds, no head is told. -/
theorem decH_bad (l : List UInt8) (ms : List Nat) (q : List UInt8) (ht : takeN 3 l = some (ms, q)) (hb : q.length < 64 ∨ q.length % 32 ≠ 0 ∨ 4096 < q.length) : decH l = none := by
  unfold decH
  rw [ht]
  simp only
  refine if_neg ?_
  rintro ⟨h2, hr⟩
  have htl : (textsH q).length = (piecesH q).length := by unfold textsH; rw [List.length_map]
  have hpl := piecesH_len q
  have hpg := pcH_long _ q (Nat.le_refl _)
  unfold headR at hr
  simp only [Bool.and_eq_true, decide_eq_true_eq] at hr
  obtain ⟨_, hh2, hhn, hcn⟩ := hr
  have hle := onesI_le ((ms.getD 0 0 : Nat) : Int)
  rw [List.length_drop] at hcn
  have hall : ∀ x ∈ piecesH q, x.length = 32 := by
    have h1 : ∀ s ∈ textsH q, isH s = true := by
      intro s hs
      unfold hashAll at hh2 hhn
      simp only [List.all_cons, List.all_nil, Bool.and_true, Bool.and_eq_true, List.all_eq_true] at hh2 hhn
      match hT : textsH q, h2 with
      | a :: b :: r, _ =>
        rw [hT] at hs hh2 hhn
        rcases List.mem_cons.1 hs with rfl | hs
        · exact hh2.1
        · rcases List.mem_cons.1 hs with rfl | hs
          · exact hh2.2
          · exact hhn s hs
    intro x hx
    have h3 := h1 (toT x) (by unfold textsH; exact List.mem_map.2 ⟨x, hx, rfl⟩)
    rw [isH_toT] at h3
    exact of_decide_eq_true h3
  have hmod : q.length % 32 = 0 := by
    by_cases h0 : q.length % 32 = 0
    · exact h0
    · obtain ⟨x, hx, hl⟩ := pcH_short _ q (Nat.le_refl _) h0
      exact absurd (hall x hx) hl
  omega

/-- the pieces from number j on. -/
theorem pcH_drop (j : Nat) : ∀ q : List UInt8, (piecesH q).drop j = piecesH (q.drop (32 * j)) := by
  induction j with
  | zero => intro q; rfl
  | succ j ih =>
    intro q
    by_cases h0 : q.length = 0
    · rw [List.length_eq_zero_iff.1 h0, pcH_nil, List.drop_nil, List.drop_nil, pcH_nil]
    · rw [pcH_cons q h0, List.drop_succ_cons, ih, List.drop_drop]
      congr 2
      omega
theorem textsH_get (q : List UInt8) (j : Nat) (h : 32 * j < q.length) : (textsH q)[j]? = some (toT ((q.drop (32 * j)).take 32)) := by
  have h1 := pcH_drop j q
  rw [pcH_cons (q.drop (32 * j)) (by rw [List.length_drop]; omega)] at h1
  unfold textsH
  rw [List.getElem?_map]
  have : (piecesH q)[j]? = some ((q.drop (32 * j)).take 32) := by
    have h2 := congrArg (·[0]?) h1
    simpa [List.getElem?_drop] using h2
  rw [this]
  rfl
theorem textsH_len (q : List UInt8) (h : q.length % 32 = 0) : 32 * (textsH q).length = q.length := by
  have h1 := piecesH_len q
  have h2 := pcH_long _ q (Nat.le_refl _)
  unfold textsH
  rw [List.length_map]
  omega

end Go.Proofs.YtgnpmmhpeianpaaGreatDoor
