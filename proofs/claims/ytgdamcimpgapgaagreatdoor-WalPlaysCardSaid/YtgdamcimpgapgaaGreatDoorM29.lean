/- Load, plain: files that are handed in, laid on an empty disk one by one. -/
import Derived.Test.YtgdamcimpgapgaaGreatDoorM28
import Derived.Test.YtgdamcimpgapgaaGreatDoorM26
namespace Go.Proofs.YtgdamcimpgapgaaGreatDoor
open Go.RowKit

/-- a file that is handed in. -/
structure Fw where
  name : ByteArray
  safe : Int
  bytes : List UInt8
  A : Option Addr
  c : Nat
def Fw.fl (x : Fw) : Fl := ⟨x.name, x.safe.toNat, x.bytes⟩
def Fw.cells (x : Fw) : List Value := [.string x.name, .int .i64 x.safe, .slice x.A x.bytes.length x.c]
def flatW : List Fw → List Value
  | [] => []
  | x :: r => x.cells ++ flatW r
theorem flatW_append (p q : List Fw) : flatW (p ++ q) = flatW p ++ flatW q := by
  induction p with
  | nil => rfl
  | cons b r ih => rw [List.cons_append, flatW, flatW, ih, List.append_assoc]
theorem flatW_len (xs : List Fw) : (flatW xs).length = xs.length * 3 := by
  induction xs with
  | nil => rfl
  | cons b r ih => rw [flatW, List.length_append, ih, List.length_cons]; simp [Fw.cells]; omega
theorem flatW_get {xs : List Fw} {i : Nat} {x : Fw} (h : xs[i]? = some x) (j : Nat) (hj : j < 3) : (flatW xs)[i * 3 + j]? = x.cells[j]? := by
  induction xs generalizing i with
  | nil => cases h
  | cons b r ih =>
    cases i with
    | zero =>
      simp only [List.getElem?_cons_zero, Option.some.injEq] at h
      subst h
      rw [flatW, Nat.zero_mul, Nat.zero_add, List.getElem?_append_left (by simp [Fw.cells]; omega)]
    | succ i =>
      rw [List.getElem?_cons_succ] at h
      have e : (i + 1) * 3 + j = (b.cells).length + (i * 3 + j) := by simp [Fw.cells]; omega
      rw [flatW, e, List.getElem?_append_right (by omega), Nat.add_sub_cancel_left]
      exact ih h
theorem Rd.fileW {w : World} {A : Option Addr} {n : Nat} {xs : List Fw} (h : Rd w A (n * 3) (flatW xs)) {i : Nat} (hi : i < n) :
    ∃ b o x, A = some ⟨b, o, none⟩ ∧ xs[i]? = some x ∧ w.cell? ⟨b, o + i * 3, none⟩ = some (.string x.name) ∧ w.cell? ⟨b, o + i * 3 + 1, none⟩ = some (.int .i64 x.safe) ∧ w.cell? ⟨b, o + i * 3 + 2, none⟩ = some (.slice x.A x.bytes.length x.c) := by
  have hl : xs.length = n := by have := h.1; rw [flatW_len] at this; omega
  obtain ⟨b, o, rfl, hc⟩ := h.2 (by omega)
  have hx : xs[i]? = some xs[i] := List.getElem?_eq_getElem (by omega)
  refine ⟨b, o, xs[i], rfl, hx, ?_, ?_, ?_⟩
  · exact hc (i * 3) _ (by rw [show i * 3 = i * 3 + 0 from rfl, flatW_get hx 0 (by omega)]; rfl)
  · rw [Nat.add_assoc]; exact hc (i * 3 + 1) _ (by rw [flatW_get hx 1 (by omega)]; rfl)
  · rw [Nat.add_assoc]; exact hc (i * 3 + 2) _ (by rw [flatW_get hx 2 (by omega)]; rfl)

/-- may a file not be laid? -/
def badW (D : Dk) (x : Fw) : Bool := !named x.name || ((findF D.files x.name).isSome || (decide (x.safe < 0) || decide ((x.bytes.length : Int) < x.safe)))
def addW (D : Dk) (x : Fw) : Dk := { D with used := D.used + costF x.fl, files := putF D.files x.fl }
def loadG : Dk → List Fw → Option Dk
  | D, [] => some D
  | D, x :: r => if badW D x then none else loadG (addW D x) r
def costW : List Fw → Int
  | [] => 0
  | x :: r => 116 + (x.bytes.length : Int) + costW r
def loadP (cap : Int) (fs : List Fw) : Option Dk := match loadG (newD cap) fs with
  | some D => if cap < D.used then none else some D
  | none => none

theorem loadG_append (q : List Fw) : ∀ (p : List Fw) (D : Dk), loadG D (p ++ q) = (loadG D p).bind fun E => loadG E q
  | [], _ => rfl
  | x :: r, D => by
    rw [List.cons_append, loadG, loadG]
    split
    · rfl
    · exact loadG_append q r _
theorem costW_nonneg : ∀ l : List Fw, 0 ≤ costW l
  | [] => Int.le_refl _
  | x :: r => by have := costW_nonneg r; simp only [costW]; omega
theorem costW_append (q : List Fw) : ∀ p : List Fw, costW (p ++ q) = costW p + costW q
  | [] => by simp [costW]
  | x :: r => by rw [List.cons_append, costW, costW, costW_append q r]; omega

/-- a disk that is being laid: it may be too full. -/
structure LdOk (cap : Int) (D : Dk) (xs : List Fw) : Prop where
  n : D.n = cap
  done : D.done = 0
  left : D.left = -1
  off : D.off = false
  used : D.used ≤ costW xs
  u0 : 0 ≤ D.used
  us : usedF D.files = D.used
  sf : ∀ f ∈ D.files, f.safe ≤ f.bytes.length
  nm : ∀ f ∈ D.files, named f.name = true
  nd : (D.files.map (·.name)).Nodup
  len : D.files.length = xs.length

theorem LdOk.start (cap : Int) : LdOk cap (newD cap) [] := ⟨rfl, rfl, rfl, rfl, Int.le_refl _, Int.le_refl _, rfl, by simp [newD], by simp [newD], by simp [newD], rfl⟩
theorem badW_no {D : Dk} {x : Fw} (h : badW D x = false) : named x.name = true ∧ findF D.files x.name = none ∧ 0 ≤ x.safe ∧ x.safe ≤ x.bytes.length := by
  unfold badW at h
  simp only [Bool.or_eq_false_iff, Bool.not_eq_false', decide_eq_false_iff_not, Option.isSome_eq_false_iff, Option.isNone_iff_eq_none] at h
  obtain ⟨h1, h2, h3, h4⟩ := h
  exact ⟨h1, h2, by omega, by omega⟩
theorem LdOk.next {cap : Int} {D : Dk} {xs : List Fw} (h : LdOk cap D xs) {x : Fw} (hb : badW D x = false) : LdOk cap (addW D x) (xs ++ [x]) := by
  obtain ⟨h1, h2, h3, h4⟩ := badW_no hb
  have hn : findF D.files x.fl.name = none := h2
  have hz : x.fl.name.size ≤ 100 := named_size h1
  refine ⟨h.n, h.done, h.left, h.off, ?_, ?_, ?_, ?_, ?_, nodup_put _ h.nd, ?_⟩
  · have hu := h.used
    show D.used + costF x.fl ≤ _
    have hb2 : x.fl.bytes.length = x.bytes.length := rfl
    rw [costW_append]
    simp only [costW, costF]
    omega
  · have hu := h.u0
    show 0 ≤ D.used + costF x.fl
    unfold costF
    omega
  · show usedF (putF D.files x.fl) = _
    rw [usedF_put_new _ hn, h.us]; rfl
  · intro f hf
    rcases mem_put hf with rfl | hf
    · show x.safe.toNat ≤ x.bytes.length
      omega
    · exact h.sf f hf
  · intro f hf
    rcases mem_put hf with rfl | hf
    · exact h1
    · exact h.nm f hf
  · have := congrArg List.length (names_put_new x.fl hn)
    simp only [List.length_map, List.length_append, List.length_cons, List.length_nil] at this
    rw [List.length_append, ← h.len]
    exact this
theorem LdOk.fin {cap : Int} {D : Dk} {xs : List Fw} (h : LdOk cap D xs) (h0 : 0 ≤ cap) (h1 : cap ≤ 1099511627776) (hu : D.used ≤ cap) : DkOk D :=
  ⟨by rw [h.n]; exact h0, by rw [h.n]; exact h1, h.u0, by rw [h.n]; exact hu, by rw [h.left]; omega, by rw [h.left]; omega, h.us, h.sf, h.nm, h.nd⟩
theorem loadG_ok {cap : Int} : ∀ {xs ys : List Fw} {D E : Dk}, LdOk cap D ys → loadG D xs = some E → LdOk cap E (ys ++ xs)
  | [], ys, D, E, h, he => by cases he; rwa [List.append_nil]
  | x :: r, ys, D, E, h, he => by
    rw [loadG] at he
    split at he
    · cases he
    · rename_i hb
      have := loadG_ok (h.next (by simpa using hb)) he
      rwa [List.append_assoc] at this
theorem loadP_ok {cap : Int} {xs : List Fw} {D : Dk} (h : loadP cap xs = some D) (h0 : 0 ≤ cap) (h1 : cap ≤ 1099511627776) : DkOk D := by
  unfold loadP at h
  cases hg : loadG (newD cap) xs with
  | none => rw [hg] at h; cases h
  | some E =>
    rw [hg] at h
    simp only at h
    split at h
    · cases h
    · cases h
      exact (loadG_ok (LdOk.start cap) hg).fin h0 h1 (by omega)

end Go.Proofs.YtgdamcimpgapgaaGreatDoor

/- disk.Load, the walk. -/
namespace Go.Proofs.YtgdamcimpgapgaaGreatDoor
open Go.RowKit

/-- what Load answers. -/
def LdPost (R : Option Dk) (w : World) (e : Ending) (w' : World) : Prop := match R with
  | some D => ∃ d F, e = .returned (.tuple #[.pointer (some ⟨d, 0, none⟩), .int .i64 0]) ∧ DiskIs w' F d D ∧ Mod Non w w' ∧ ∀ k, F k → w.heap.size ≤ k
  | none => ∃ E : Int, e = .returned (.tuple #[.pointer none, .int .i64 E]) ∧ E ≠ 0 ∧ Mod Non w w'
theorem DkAt.disk {w : World} {G : Nat → Prop} {d m : Nat} {kvs : List (ByteArray × Value)} {D : Dk} (h : DkAt w G d m kvs D) {B : Nat} (hG : ∀ j, G j → B ≤ j ∧ j < w.heap.size) (hd : B ≤ d) (hm : B ≤ m) (hp : powG < B) :
    DiskIs w (fun k => k = d ∨ k = m ∨ G k) d D :=
  ⟨G, m, kvs, h, .inl rfl, .inr (.inl rfl), fun _ h => .inr (.inr h), by rintro (h | h | h); omega; omega; have := (hG _ h).1; omega, by rintro k (rfl | rfl | hk); exact h.blk.lt; exact h.map.lt; exact (hG k hk).2⟩
theorem costW_mem {x : Fw} : ∀ {l : List Fw}, x ∈ l → 116 + (x.bytes.length : Int) ≤ costW l
  | [], h => by cases h
  | y :: r, h => by
    have := costW_nonneg r
    rcases List.mem_cons.1 h with rfl | h
    · simp only [costW]; omega
    · have := costW_mem h
      simp only [costW]; omega
theorem loadP_stop {cap : Int} {fs : List Fw} {k : Nat} {x : Fw} {E : Dk} (h : loadG (newD cap) (fs.take k) = some E) (hx : fs[k]? = some x) (hb : badW E x = true) : loadP cap fs = none := by
  have hlt : k < fs.length := (List.getElem?_eq_some_iff.1 hx).1
  have hd : fs.drop k = x :: fs.drop (k + 1) := by
    rw [List.drop_eq_getElem_cons hlt]
    congr 1
    exact (List.getElem?_eq_some_iff.1 hx).2
  have : loadG (newD cap) fs = none := by
    rw [← List.take_append_drop k fs, loadG_append, h, hd]
    show loadG E (x :: _) = none
    rw [loadG, if_pos hb]
  unfold loadP
  rw [this]
theorem loadP_full {cap : Int} {fs : List Fw} {E : Dk} (h : loadG (newD cap) fs = some E) (hu : cap < E.used) : loadP cap fs = none := by
  unfold loadP
  rw [h]
  exact if_pos hu
theorem loadP_done {cap : Int} {fs : List Fw} {E : Dk} (h : loadG (newD cap) fs = some E) (hu : ¬ cap < E.used) : loadP cap fs = some E := by
  unfold loadP
  rw [h]
  exact if_neg hu

set_option maxRecDepth 100000 in
set_option maxHeartbeats 2000000 in
theorem load_any (cap : Int) (A : Option Addr) (n c : Nat) (fs : List Fw) (w : World) (hL : Lay w) (h0 : 0 ≤ cap) (h1 : cap ≤ 1099511627776) (hx : Rd w A (n * 3) (flatW fs))
    (hb : ∀ x ∈ fs, Rd w x.A x.bytes.length (by8 x.bytes)) (hz : ∀ x ∈ fs, x.name.size ≤ 140737488351232) (hc : costW fs ≤ 1099511627776) (hn : n ≤ 100000000000) :
    Calls Tryz.prog 43 #[.int .i64 cap, .slice A n c] w (LdPost (loadP cap fs) w) := by
  obtain ⟨R, hR⟩ : ∃ R, loadP cap fs = R := ⟨_, rfl⟩
  rw [hR]
  have HR := Lib.hid hR
  have hlen : fs.length = n := by have := hx.1; rw [flatW_len] at this; omega
  have HLEN := Lib.hid hlen
  have HX := Lib.hid hx
  have HB := Lib.hid hb
  have HC := Lib.hid hc
  have HZ := Lib.hid hz
  have hpw := hL.lt
  have HN := Lib.hid (new_yes cap w hL h0 h1)
  clear hR hlen hx hb hc hL hz
  go_enter Tryz.func43, Tryz.ntmps43
  go_wp2_with (first
    | (go_at_call 7; refine HN.out.mono ?_; rintro e w1 ⟨d, F, rfl, hDI, hbw, hF⟩))
  have HM1 : Hid (Mod Non w w1) := Mod.of_below hbw
  obtain ⟨G0, m, kvs0, hA, hFd, hFm, hGF, hFp, hFl⟩ := hDI
  have hdw := hF d hFd
  have hmw := hF m hFm
  have hdl := hFl d hFd
  have hml := hFl m hFm
  have HA := Lib.hid hA
  have HG0 : Hid (∀ j, G0 j → w.heap.size ≤ j ∧ j < w1.heap.size) := fun j hj => ⟨hF j (hGF j hj), hFl j (hGF j hj)⟩
  clear hA hbw hF hFl hGF hFp
  go_loopw [20] (fun i wr => ∃ (k : Nat) (E : Dk) (kvs : List (ByteArray × Value)) (G : Nat → Prop), k ≤ n ∧ i = .int .i64 k ∧ w1.heap.size ≤ wr.heap.size ∧ Hid (DkAt wr G d m kvs E) ∧ Hid (∀ j, G j → w.heap.size ≤ j ∧ j < wr.heap.size) ∧ Hid (loadG (newD cap) (fs.take k) = some E) ∧ Hid (Mod Non w wr)) (fun i _ => n - idxN i)
  case atStart => exact ⟨0, newD cap, kvs0, G0, Nat.zero_le _, rfl, Nat.le_refl _, HA.out, HG0.out, rfl, HM1.out⟩
  case round =>
    obtain ⟨k, E, kvs, G, hk, rfl, hwr, HD, HG, HLG, HM⟩ := hrel
    by_cases hlt : k < n
    · obtain ⟨b, o, x, rfl, hxk, k0, k1, k2⟩ := (HX.out.mod0 HM.out).fileW hlt
      have hxm := List.mem_of_getElem? hxk
      have hxc := costW_mem hxm
      have hxb : x.name.size ≤ 140737488351232 ∧ x.bytes.length ≤ 1099511627776 := by
        have := HC.out
        have := HZ.out x hxm
        omega
      have HXK := Lib.hid hxk
      have HXB := Lib.hid ((HB.out x hxm).mod0 HM.out)
      have hlok := Lib.hid (loadG_ok (LdOk.start cap) HLG.out)
      obtain ⟨yn, ysf, yb, yA, yc⟩ := x
      simp only at k0 k1 k2 hxb
      obtain ⟨hx1, hx2⟩ := hxb
      have i1 : (0 : Int) ≤ (k : Int) := by omega
      have i2 : (k : Int) < (n : Int) := by omega
      have hdr : d < wr.heap.size := by omega
      have hmr : m < wr.heap.size := by omega
      clear hxk hxm hxc
      go_wp2_with fail
      have hbox : Blk (wr.alloc (.cells #[.string yn, .int .i64 ysf, .slice yA yb.length yc] 69)) wr.heap.size 69 #[.string yn, .int .i64 ysf, .slice yA yb.length yc] := Blk.new _ _ _
      have hma : Mod Non wr (wr.alloc (.cells #[.string yn, .int .i64 ysf, .slice yA yb.length yc] 69)) := (Mod.refl Non wr).alloc _
      generalize wr.alloc (.cells #[.string yn, .int .i64 ysf, .slice yA yb.length yc] 69) = W0 at *
      have HBX := Lib.hid hbox
      have HMA := Lib.hid hma
      have b0 : W0.cell? ⟨wr.heap.size, 0, none⟩ = some (.string yn) := hbox.cell 0
      clear hbox hma k0 k1 k2
      refine (named_any yn _ (by omega)).mono ?_
      rintro e w' ⟨rfl, rfl⟩
      have hbad : ∀ (W : World), badW E ⟨yn, ysf, yb, yA, yc⟩ = true → Mod Non W0 W → LdPost R w (.returned (.tuple #[.pointer none, .int .i64 1])) W := fun W hbd hW => by
        have := loadP_stop HLG.out HXK.out hbd
        rw [← HR.out, this]
        exact ⟨1, rfl, by omega, (HM.out.trans0 HMA.out).trans0 hW⟩
      have HBAD := Lib.hid hbad
      clear hbad
      obtain ⟨nb, hnb⟩ : ∃ nb, named yn = nb := ⟨_, rfl⟩
      rw [hnb]
      have HNB := Lib.hid hnb
      clear hnb
      cases nb with
      | false =>
        go_wp2_with fail
        go_ret2
        exact HBAD.out _ (by simp [badW, HNB.out]) (Mod.refl _ _)
      | true =>
        go_wp2_with fail
        have hD0 := HD.out.mod0 HMA.out
        refine (has_any yn _ d E W0 (hD0.disk (B := w.heap.size) (fun j hj => ⟨(HG.out j hj).1, Nat.lt_of_lt_of_le (HG.out j hj).2 HMA.out.size⟩) hdw hmw hpw)).mono ?_
        rintro e W1 ⟨rfl, hq⟩
        obtain ⟨hs, hhs⟩ : ∃ hs, (findF E.files yn).isSome = hs := ⟨_, rfl⟩
        rw [hhs]
        have HHS := Lib.hid hhs
        have HQ := Lib.hid hq
        have hbx1 := HBX.out.mod hq fun h => h
        have c1 : W1.cell? ⟨wr.heap.size, 1, none⟩ = some (.int .i64 ysf) := hbx1.cell 1
        have c2 : W1.cell? ⟨wr.heap.size, 2, none⟩ = some (.slice yA yb.length yc) := hbx1.cell 2
        clear hhs hq hD0
        cases hs with
        | true =>
          clear hbx1
          go_wp2_with fail
          go_ret2
          exact HBAD.out _ (by simp [badW, HHS.out]) HQ.out
        | false =>
          by_cases hs1 : ysf < 0
          · clear hbx1
            go_wp2_with fail
            go_ret2
            exact HBAD.out _ (by simp [badW, hs1]) HQ.out
          · by_cases hs2 : (yb.length : Int) < ysf
            · clear hbx1
              go_wp2_with fail
              go_ret2
              exact HBAD.out _ (by simp [badW, hs2]) HQ.out
            · have hnb : badW E ⟨yn, ysf, yb, yA, yc⟩ = false := by
                unfold badW
                simp only [HNB.out, HHS.out, Bool.not_true, Bool.false_or, Bool.or_eq_false_iff, decide_eq_false_iff_not]
                exact ⟨hs1, hs2⟩
              have HNBD := Lib.hid hnb
              have HBX1 := Lib.hid hbx1
              clear hnb hbx1
              go_wp2_with fail
              refine (clone_any yA yb.length yc yb _ ((HXB.out.mod0 HMA.out).mod0 HQ.out) (by omega)).mono ?_
              rintro e W2 ⟨pA, pc, rfl, pown, pb⟩
              have HM2 : Hid (Mod Non W1 W2) := Mod.of_below pb
              have hbx2 := HBX1.out.mod HM2.out fun h => h
              have POWN := Lib.hid pown
              have hs2z := HM2.out.size
              have hs1z := HQ.out.size
              have hs0z := HBX.out.lt
              obtain ⟨pA', pc', hpe, hpc, hpc2⟩ := own_slice pown
              cases hpe
              have c20 : W2.cell? ⟨wr.heap.size, 2, none⟩ = some (.slice yA yb.length yc) := hbx2.cell 2
              have f20 := hbx2.frozen 2
              have hbx3 := hbx2.set_ 2 (.slice pA yb.length pc)
              have hm3 : Mod (fun k => k = wr.heap.size) W2 (W2.setCell ⟨wr.heap.size, 2, none⟩ (.slice pA yb.length pc)) := (Mod.refl _ _).set1 2 _
              have hz3 : (W2.setCell ⟨wr.heap.size, 2, none⟩ (.slice pA yb.length pc)).heap.size = W2.heap.size := by simp
              clear pb pown hbx2 c1 c2 b0
              go_wp2_with fail
              clear c20 f20
              generalize W2.setCell ⟨wr.heap.size, 2, none⟩ (.slice pA yb.length pc) = W3 at *
              have HM3 := Lib.hid hm3
              have HBX3 := Lib.hid hbx3
              have HD3 := Lib.hid ((((HD.out.mod0 HMA.out).mod0 HQ.out).mod0 HM2.out).mod hm3 (by omega) (by omega) (fun j hj => by have := (HG.out j hj).2; omega) (by omega))
              have e0 : W3.cell? ⟨wr.heap.size, 0, none⟩ = some (.string yn) := hbx3.cell 0
              have e1 : W3.cell? ⟨wr.heap.size, 1, none⟩ = some (.int .i64 ysf) := hbx3.cell 1
              have e2 : W3.cell? ⟨wr.heap.size, 2, none⟩ = some (.slice pA yb.length pc) := hbx3.cell 2
              have g2 : W3.cell? ⟨d, 2, none⟩ = some (.map (some m)) := HD3.out.blk.cell 2
              clear hm3 hbx3
              have tok : True := trivial
              go_region_held3 (fun w' => w'.cell? ⟨d, 2, none⟩ = some (.map (some m)) ∧ w'.cell? ⟨wr.heap.size, 0, none⟩ = some (.string yn) ∧ w'.cell? ⟨wr.heap.size, 1, none⟩ = some (.int .i64 ysf) ∧ w'.cell? ⟨wr.heap.size, 2, none⟩ = some (.slice pA yb.length pc))
                (first | go_keep)
                (first
                  | (have _t := tok
                     obtain ⟨w3, hrun, hp3, hm3⟩ := MapAt.run_put (P := Tryz.prog) strKey (HD3.out.map.mod0' ((Mod.refl Non W3).drew)) Tryz.underlying61 Tryz.underlying9 yn (.agg #[.string yn, .int .i64 ysf, .slice pA yb.length pc])
                     rw [hrun]
                     clear hrun
                     have g23 := hm3.cell g2 (p := ⟨d, 2, none⟩) (fun e => HD.out.dm e)
                     have b03 := hm3.cell e0 (p := ⟨wr.heap.size, 0, none⟩) (fun e => by simp only at e; omega)
                     have b13 := hm3.cell e1 (p := ⟨wr.heap.size, 1, none⟩) (fun e => by simp only at e; omega)
                     have b23 := hm3.cell e2 (p := ⟨wr.heap.size, 2, none⟩) (fun e => by simp only at e; omega)
                     simp only [Result.andThen, Oper.upon]))
              have hm3' : Mod (fun j => j = m) W3 w3 := ((Mod.refl Non W3).drew).non.trans hm3 (fun _ h => .inl h)
              have hpo := own_base POWN.out
              have hnz := named_size HNB.out
              have hsf : ((ysf.toNat : Nat) : Int) = ysf := by omega
              have hfl3 : FlAt w3 (fun j => G j ∨ blkOf pA = some j) (yn, .agg #[.string yn, .int .i64 ysf, .slice pA yb.length pc]) ⟨yn, ysf.toNat, yb⟩ := by
                refine ⟨rfl, pA, pc, by simp only [hsf], ?_, hpc, by have : maxLen = 9223372036854775807 := rfl; omega, fun j hj => .inr hj⟩
                have r2 := (Rd.of_own POWN.out).mod HM3.out fun _ j hj e => by have := hpo j hj; omega
                exact r2.mod hm3' fun _ j hj e => by have := hpo j hj; omega
              have hD4 := HD3.out.stored (f := ⟨yn, ysf.toNat, yb⟩) (B := w1.heap.size) hp3 hm3' (fun j hj => .inl hj) hfl3 (fun j hj => hj.imp id fun h => by have := hpo j h; omega) hdl hml
              have HD4 := Lib.hid hD4
              have HM4 := Lib.hid hm3'
              have d1 : w3.cell? ⟨d, 1, none⟩ = some (.int .i64 E.used) := hD4.blk.cell 1
              have f1 := hD4.blk.frozen 1
              have hu0 : 0 ≤ E.used ∧ E.used ≤ 1099511627776 := by
                have h1 := hlok.out.used
                have h0u := hlok.out.u0
                have h2 := costW_nonneg ([] ++ fs.take k)
                have h3 := costW_append (fs.drop k) (fs.take k)
                have h4 := costW_nonneg (fs.drop k)
                rw [List.take_append_drop] at h3
                rw [List.nil_append] at h1 h2
                have := HC.out
                omega
              have q1 : IntKind.i64.wrap (E.used + (16 + (yn.size : Int) + (yb.length : Int))) = E.used + (16 + (yn.size : Int) + (yb.length : Int)) := IntWalk.i64_in _ (by omega)
              clear hD4 hm3' hfl3 hp3 hm3 g23 b13 e0 e1 e2 g2
              have HPO := Lib.hid hpo
              clear hpo
              go_wp2_with fail
              go_region_with (go_at_call 72; refine (cost_any yn yb.length _ (by omega) (by omega)).mono ?_; rintro e w' ⟨rfl, rfl⟩)
              all_goals
                go_wp2_with fail
                have hm9 : Mod Non w (w3.drew.setCell ⟨d, 1, none⟩ (.int .i64 (E.used + (16 + (yn.size : Int) + (yb.length : Int))))) :=
                  ((((((HM.out.trans0 HMA.out).trans0 HQ.out).trans0 HM2.out).trans HM3.out fun j hj => .inr (by omega)).trans HM4.out fun j hj => .inr (by omega)).drew).setCell (p := ⟨d, 1, none⟩) (.inr hdw) _
                have hD9 : DkAt (w3.drew.setCell ⟨d, 1, none⟩ (.int .i64 (E.used + (16 + (yn.size : Int) + (yb.length : Int))))) (fun j => G j ∨ blkOf pA = some j) d m (putKV kvs yn (.agg #[.string yn, .int .i64 ysf, .slice pA yb.length pc])) (addW E ⟨yn, ysf, yb, yA, yc⟩) :=
                  (HD4.out.mod0 ((Mod.refl Non _).drew)).setUsed _
                have hz9 : (w3.setCell ⟨d, 1, none⟩ (.int .i64 (E.used + (16 + (yn.size : Int) + (yb.length : Int))))).drew.heap.size = w3.heap.size := by simp [World.setCell]
                have hz4 := HM4.out.size
                have hlg9 : loadG (newD cap) (fs.take (k + 1)) = some (addW E ⟨yn, ysf, yb, yA, yc⟩) := by
                  rw [take_snoc' fs k _ HXK.out, loadG_append, HLG.out]
                  show loadG E [_] = _
                  rw [loadG, if_neg (by rw [HNBD.out]; exact Bool.noConfusion)]
                  rfl
                have hplt := POWN.out.lt
                go_roundw
                case rel =>
                  refine ⟨k + 1, _, _, _, by omega, by go_num, by omega, hD9, ?_, hlg9, hm9⟩
                  intro j hj
                  rcases hj with hj | hj
                  · exact ⟨(HG.out j hj).1, by have := (HG.out j hj).2; omega⟩
                  · exact ⟨by have := HPO.out j hj; omega, by have := (hplt j (by rw [slice_blk]; exact hj)).2; omega⟩
                case measure => simp [idxN]; omega
    · obtain rfl : k = n := by omega
      have hlg := HLG.out
      rw [List.take_of_length_le (by rw [HLEN.out]; omega)] at hlg
      have d1 : wr.cell? ⟨d, 1, none⟩ = some (.int .i64 E.used) := HD.out.blk.cell 1
      have HLG2 := Lib.hid hlg
      clear hlg
      by_cases hu : cap < E.used
      · go_wp2_with fail
        go_ret2
        rw [← HR.out, loadP_full HLG2.out hu]
        exact ⟨4, rfl, by omega, HM.out⟩
      · go_wp2_with fail
        go_ret2
        rw [← HR.out, loadP_done HLG2.out (by omega)]
        exact ⟨d, _, rfl, HD.out.disk (B := w.heap.size) HG.out hdw hmw hpw, HM.out, by rintro j (rfl | rfl | h); exact hdw; exact hmw; exact (HG.out j h).1⟩

end Go.Proofs.YtgdamcimpgapgaaGreatDoor

/- Append of one handed-in file to a row of disk.File, inside a drawn region (law05.both). -/
namespace Go.Proofs.YtgdamcimpgapgaaGreatDoor
open Go.RowKit

theorem flatW_one (xs : List Fw) : ∀ u ∈ flatW xs, u.oneCell' = true := by
  induction xs with
  | nil => intro u hu; cases hu
  | cons x r ih =>
    intro u hu
    rw [flatW, List.mem_append] at hu
    rcases hu with hu | hu
    · simp only [Fw.cells, List.mem_cons, List.not_mem_nil, or_false] at hu
      rcases hu with rfl | rfl | rfl <;> rfl
    · exact ih u hu
theorem one_fileW (w : World) (t : TypeId) (x : Fw) : Rd (w.alloc (.cells #[.string x.name, .int .i64 x.safe, .slice x.A x.bytes.length x.c] t)) (some ⟨w.heap.size, 0, none⟩) (1 * 3) (flatW [x]) := by
  refine ⟨rfl, fun _ => ⟨w.heap.size, 0, rfl, fun j u hu => ?_⟩⟩
  rw [Nat.zero_add, cell_of_row _ _ j _ t (0, 0) (heap_alloc_new w _)]
  match j, hu with
  | 0, hu => exact hu
  | 1, hu => exact hu
  | 2, hu => exact hu
theorem step_appW (w : World) {ops : Array Oper} {o : Oper} {a : Act} {K : Act → World → Prop} {Q : Exit → Act → World → Prop} {Z : Prop} (hgd : o.guard = none) (s x : Operand)
    (ho : o.op = .call { callee := .builtin .append, args := #[s, x], argTypes := #[57, 57] })
    (base : Nat) (v : Value) (n : Nat) (xs : List Fw) (hs : a.eval s = v) (hown : w.ownsRow base 69 3 v n (flatW xs))
    (A : Option Addr) (m c : Nat) (news : List Fw) (hx : a.eval x = .slice A m c) (hr : Rd w A (m * 3) (flatW news))
    (h63 : n + m ≤ 1000000000000) (hbase : base ≤ w.heap.size)
    (h : ∀ A' c' w', n + m ≤ c' → c' ≤ 9223372036854775807 → w'.ownsRow base 69 3 (.slice A' (n + m) c') (n + m) (flatW (xs ++ news)) → w.grownBy w' v.ownBlock → (blkOf A' = v.ownBlock ∨ blkOf A' = some w.heap.size) → K (a.put o.dst (.slice A' (n + m) c')) w') : if Region.wanted o (yielded ops a.tmps) = true then Oper.wp Tryz.prog o a w K Q else Z := by
  obtain ⟨i, z, hi, hz, hs1, hb, hzs⟩ := rowD
  have hw : Region.wanted o (yielded ops a.tmps) = true := by simp [Region.wanted, hgd]
  rw [if_pos hw]
  obtain ⟨v', w', hrun, h2, h3, h4⟩ := run_app3 (P := Tryz.prog) w base 57 o.type 69 i z 48 Tryz.underlying57 hi hz hs1 hb hzs v n (flatW xs) hown A m c (flatW news) hr (flatW_one _) (by simp only [maxLen]; omega) (by omega) hbase
  obtain ⟨A', c', rfl, hc, hcm⟩ := own_slice h2
  unfold Oper.wp execOp
  simp only [ho, resolve, invoke, builtin, Sem.run_bind, Sem.run_pure, Result.andThen_ok, List.map_toArray, List.map_cons, List.map_nil, hs, hx, hrun]
  rw [← flatW_append] at h2
  exact h A' c' w' hc (by have : maxLen = 9223372036854775807 := rfl; omega) h2 h3 (by cases A' <;> exact h4)

end Go.Proofs.YtgdamcimpgapgaaGreatDoor

/- sawyerref04.Load, the walk. -/
namespace Go.Proofs.YtgdamcimpgapgaaGreatDoor
open Go.RowKit

/-- what the reference's Load answers. -/
def LrPost (R : Option Dk) (w : World) (e : Ending) (w' : World) : Prop := match R with
  | some D => ∃ r E, e = .returned (.tuple #[.pointer (some ⟨r, 0, none⟩), .int .i64 0]) ∧ RkIs w' E r D ∧ Mod Non w w' ∧ ∀ k, E k → w.heap.size ≤ k
  | none => ∃ E : Int, e = .returned (.tuple #[.pointer none, .int .i64 E]) ∧ E ≠ 0 ∧ Mod Non w w'

theorem RkIs.used {w : World} {E : Nat → Prop} {r : Nat} {D : Dk} (h : RkIs w E r D) (u : Int) : RkIs w E r { D with used := u } := by
  obtain ⟨B, A, n, c, xs, h1, h2, h3, h4⟩ := h
  exact ⟨B, A, n, c, xs, ⟨h1.blk, h1.row, h1.nc, h1.cm, h1.fs, h1.byt, h1.rowB, h1.rB⟩, h2, h3, h4⟩

set_option maxRecDepth 100000 in
set_option maxHeartbeats 2000000 in
theorem loadR_any (cap : Int) (A : Option Addr) (n c : Nat) (fs : List Fw) (w : World) (h0 : 0 ≤ cap) (h1 : cap ≤ 1099511627776) (hx : Rd w A (n * 3) (flatW fs))
    (hb : ∀ x ∈ fs, Rd w x.A x.bytes.length (by8 x.bytes)) (hz : ∀ x ∈ fs, x.name.size ≤ 140737488351232) (hc : costW fs ≤ 1099511627776) (hn : n ≤ 100000000000) :
    Calls Tryz.prog 44 #[.int .i64 cap, .slice A n c] w (LrPost (loadP cap fs) w) := by
  obtain ⟨R, hR⟩ : ∃ R, loadP cap fs = R := ⟨_, rfl⟩
  rw [hR]
  have HR := Lib.hid hR
  have hlen : fs.length = n := by have := hx.1; rw [flatW_len] at this; omega
  have HLEN := Lib.hid hlen
  have HX := Lib.hid hx
  have HB := Lib.hid hb
  have HC := Lib.hid hc
  have HZ := Lib.hid hz
  have HN := Lib.hid (newR_yes cap w h0 h1)
  clear hR hlen hx hb hc hz
  go_enter Tryz.func44, Tryz.ntmps44
  go_wp2_with (first
    | (go_at_call 81; refine HN.out.mono ?_; rintro e w1 ⟨r, E0, rfl, hRI, hmw, hF⟩))
  have HM1 := Lib.hid hmw
  have HRI := Lib.hid hRI
  have HF := Lib.hid hF
  clear hRI hmw hF
  go_loopw [8] (fun i wr => ∃ (k : Nat) (D : Dk) (E : Nat → Prop), k ≤ n ∧ i = .int .i64 k ∧ Hid (RkIs wr E r D) ∧ Hid (∀ j, E j → w.heap.size ≤ j) ∧ Hid (loadG (newD cap) (fs.take k) = some D) ∧ Hid (Mod Non w wr)) (fun i _ => n - idxN i)
  case atStart => exact ⟨0, newD cap, E0, Nat.zero_le _, rfl, HRI.out, HF.out, rfl, HM1.out⟩
  case round =>
    obtain ⟨k, D, E, hk, rfl, HD, HG, HLG, HM⟩ := hrel
    by_cases hlt : k < n
    · obtain ⟨b, o, x, rfl, hxk, k0, k1, k2⟩ := (HX.out.mod0 HM.out).fileW hlt
      have hbw : b < w.heap.size := by
        obtain ⟨b', o', x', he, _, kk, _⟩ := HX.out.fileW hlt
        cases he
        exact World.block_lt_of_cell? w _ kk
      have hxm := List.mem_of_getElem? hxk
      have hxc := costW_mem hxm
      have hxb : x.name.size ≤ 140737488351232 ∧ x.bytes.length ≤ 1099511627776 := by
        have := HC.out
        have := HZ.out x hxm
        omega
      have HXK := Lib.hid hxk
      have HXB := Lib.hid ((HB.out x hxm).mod0 HM.out)
      have hlok := Lib.hid (loadG_ok (LdOk.start cap) HLG.out)
      obtain ⟨yn, ysf, yb, yA, yc⟩ := x
      simp only at k0 k1 k2 hxb
      obtain ⟨hx1, hx2⟩ := hxb
      have i1 : (0 : Int) ≤ (k : Int) := by omega
      have i2 : (k : Int) < (n : Int) := by omega
      have hbl : b < wr.heap.size := World.block_lt_of_cell? wr _ k2
      have hbad : ∀ (W : World), badW D ⟨yn, ysf, yb, yA, yc⟩ = true → Mod Non wr W → LrPost R w (.returned (.tuple #[.pointer none, .int .i64 1])) W := fun W hbd hW => by
        have := loadP_stop HLG.out HXK.out hbd
        rw [← HR.out, this]
        exact ⟨1, rfl, by omega, HM.out.trans0 hW⟩
      have HBAD := Lib.hid hbad
      clear hbad hxk hxm hxc
      obtain ⟨nb, hnb⟩ : ∃ nb, named yn = nb := ⟨_, rfl⟩
      have HNB := Lib.hid hnb
      have HQN : Hid (∀ W, Calls Tryz.prog 82 #[.string yn] W fun e w' => e = .returned (.bool nb) ∧ w' = W) := fun W => by
        have := namedR_any yn W (by omega)
        rw [HNB.out] at this
        exact this.mono fun _ _ h => ⟨h.1, h.2.symm⟩
      clear hnb
      obtain ⟨hs, hhs⟩ : ∃ hs, (findF D.files yn).isSome = hs := ⟨_, rfl⟩
      have HHS := Lib.hid hhs
      have HQH : Hid (∀ q, Calls Tryz.prog 83 #[.pointer (some ⟨r, 0, none⟩), .string yn] (wr.drewN q) fun e w' => e = .returned (.bool hs) ∧ w' = wr.drewN q) := fun q => by
        have := hasR_any yn E r D (wr.drewN q) (HD.out.mod0 ((Mod.refl Non wr).drewN q)) hlok.out.nd
        rw [HHS.out] at this
        exact this.mono fun _ _ h => ⟨h.1, h.2.symm⟩
      clear hhs
      cases nb with
      | false =>
        go_wp2_with fail
        go_quiet (first | (go_at_call 82; refine Calls.quiet_of_same (HQN.out _)))
        go_wp2_with fail
        go_ret2
        exact HBAD.out _ (by simp [badW, HNB.out]) ((Mod.refl _ _).drewN _)
      | true =>
        cases hs with
        | true =>
          go_wp2_with fail
          go_quiet (first
            | (go_at_call 82; refine Calls.quiet_of_same (HQN.out _))
            | (go_at_call 83; refine Calls.quiet_of_same (HQH.out _)))
          go_wp2_with fail
          go_ret2
          exact HBAD.out _ (by simp [badW, HHS.out]) ((Mod.refl _ _).drewN _)
        | false =>
          by_cases hs1 : ysf < 0
          · have hd1 : decide (ysf < 0) = true := decide_eq_true hs1
            go_wp2_with fail
            go_quiet (first
              | (go_at_call 82; refine Calls.quiet_of_same (HQN.out _))
              | (go_at_call 83; refine Calls.quiet_of_same (HQH.out _)))
            go_wp2_with fail
            go_ret2
            exact HBAD.out _ (by simp [badW, hs1]) ((Mod.refl _ _).drewN _)
          · have hd1 : decide (ysf < 0) = false := decide_eq_false hs1
            by_cases hs2 : (yb.length : Int) < ysf
            · have hd2 : decide ((yb.length : Int) < ysf) = true := decide_eq_true hs2
              go_wp2_with fail
              go_quiet (first
                | (go_at_call 82; refine Calls.quiet_of_same (HQN.out _))
                | (go_at_call 83; refine Calls.quiet_of_same (HQH.out _)))
              go_wp2_with fail
              go_ret2
              exact HBAD.out _ (by simp [badW, hs2]) ((Mod.refl _ _).drewN _)
            · have hd2 : decide ((yb.length : Int) < ysf) = false := decide_eq_false hs2
              go_wp2_with fail
              go_quiet (first
                | (go_at_call 82; refine Calls.quiet_of_same (HQN.out _))
                | (go_at_call 83; refine Calls.quiet_of_same (HQH.out _)))
              go_wp2_with fail
              have hnbd : badW D ⟨yn, ysf, yb, yA, yc⟩ = false := by
                unfold badW
                simp only [HNB.out, HHS.out, Bool.not_true, Bool.false_or, Bool.or_eq_false_iff, decide_eq_false_iff_not]
                exact ⟨by omega, by omega⟩
              have HNBD := Lib.hid hnbd
              obtain ⟨s, rfl⟩ : ∃ s : Nat, ysf = s := ⟨ysf.toNat, by omega⟩
              have hmq : Mod Non wr (wr.drewN nq) := (Mod.refl Non wr).drewN nq
              generalize wr.drewN nq = W at *
              have HMQ := Lib.hid hmq
              have K0 := Lib.hid (hmq.cell k0 (fun h => h))
              have K1 := Lib.hid (hmq.cell k1 (fun h => h))
              have K2 := Lib.hid (hmq.cell k2 (fun h => h))
              have g0 := K0.out
              have g1 := K1.out
              have g2 := K2.out
              have hrE : E r ∧ r < wr.heap.size := by
                obtain ⟨B, A2, n2, c2, xs2, hat, hE, hBE, hEl⟩ := HD.out
                exact ⟨hE, hEl r hE⟩
              have hrw := HG.out r hrE.1
              have hbr : b < W.heap.size := Nat.lt_of_lt_of_le hbl hmq.size
              have hszq := hmq.size
              have hrE2 := hrE.2
              have hfl : D.files.length ≤ 100000000000 := by
                have := hlok.out.len
                rw [List.nil_append, List.length_take] at this
                omega
              clear hnbd hmq k0 k1 k2 hd1 hd2 hrE
              go_region_held3 (fun w' => w'.cell? ⟨b, o + k * 3, none⟩ = some (.string yn) ∧ w'.cell? ⟨b, o + k * 3 + 1, none⟩ = some (.int .i64 (s : Int)) ∧ w'.cell? ⟨b, o + k * 3 + 2, none⟩ = some (.slice yA yb.length yc))
                (first | exact ⟨g0q, g1q, g2q⟩ | go_keep)
                (first
                  | (refine step_app8 bt _ rfl (.tmp 72) (.tmp 77) rfl W.heap.size (.slice (some ⟨W.heap.size, 0, none⟩) 0 0) 0 [] rfl (own_empty W.drew 5 1) yA yb.length yc yb rfl (((HXB.out.mod0 HMQ.out).drew).alloc _) yb.length (by omega) yb rfl (by omega) (by simp) ?_
                     intro pA pc pw phc pown pg pat
                     have MP := Lib.hid ((((Mod.refl Non W).drew).alloc (.cells #[] 5)).trans (Mod.of_grown (S := fun g => (Value.slice (some ⟨W.heap.size, 0, none⟩) 0 0).ownBlock = some g) pg fun _ h => h) fun g hg => .inr (by simp [Value.ownBlock] at hg; omega))
                     have g0p := MP.out.cell g0 (fun h => h)
                     have g1p := MP.out.cell g1 (fun h => h)
                     have g2p := MP.out.cell g2 (fun h => h)
                     have hpz := MP.out.size
                     have POWN := Lib.hid pown
                     clear pown pg pat)
                  | (go_at_call 84
                     refine (put_any ⟨⟨yn, s, yb⟩, pA, pc⟩ E r D pw ((HD.out.mod0 HMQ.out).mod0 MP.out) hlok.out.nd hfl (Rd.of_own POWN.out) (by obtain ⟨_, _, he, h1, h2⟩ := own_slice POWN.out; cases he; exact h1) (by obtain ⟨_, _, he, h1, h2⟩ := own_slice POWN.out; cases he; have hm : maxLen = 9223372036854775807 := rfl; show pc ≤ _; omega) (fun g hg => ⟨by have := own_base POWN.out g hg; omega, (POWN.out.lt g (by rw [slice_blk]; exact hg)).2⟩)).mono ?_
                     rintro e qw ⟨rfl, E', hR3, hm3, hE3⟩
                     have g0q := hm3.cell g0p (p := ⟨b, o + k * 3, none⟩) (fun e => by have e : b = r := e; omega)
                     have g1q := hm3.cell g1p (p := ⟨b, o + k * 3 + 1, none⟩) (fun e => by have e : b = r := e; omega)
                     have g2q := hm3.cell g2p (p := ⟨b, o + k * 3 + 2, none⟩) (fun e => by have e : b = r := e; omega)))
              all_goals
                go_wp2_with fail
                have hm9 : Mod Non w qw := ((HM.out.trans0 HMQ.out).trans0 MP.out).trans hm3 fun j hj => .inr (by omega)
                have hlg9 : loadG (newD cap) (fs.take (k + 1)) = some (addW D ⟨yn, s, yb, yA, yc⟩) := by
                  rw [take_snoc' fs k _ HXK.out, loadG_append, HLG.out]
                  show loadG D [_] = _
                  rw [loadG, if_neg (by rw [HNBD.out]; exact Bool.noConfusion)]
                  rfl
                have hr9 : RkIs qw E' r (addW D ⟨yn, s, yb, yA, yc⟩) := hR3.used _
                have hwm := HM.out.size
                have hpo := own_base POWN.out
                go_roundw
                case rel =>
                  refine ⟨k + 1, _, E', by omega, by go_num, hr9, ?_, hlg9, hm9⟩
                  intro j hj
                  rcases hE3 j hj with h | h | h
                  · exact HG.out j h
                  · have := hpo j h; omega
                  · omega
                case measure => simp [idxN]; omega
    · obtain rfl : k = n := by omega
      have hlg := HLG.out
      rw [List.take_of_length_le (by rw [HLEN.out]; omega)] at hlg
      have hlok := loadG_ok (LdOk.start cap) hlg
      have hus := hlok.us
      have hud := hlok.used
      have hcn := hlok.n
      rw [List.nil_append] at hud
      have hcc := HC.out
      have HLG2 := Lib.hid hlg
      obtain ⟨B, A2, n2, c2, xs2, hat, hE, hBE, hEl⟩ := HD.out
      have HAT := Lib.hid hat
      clear hlg hlok hat
      by_cases hu : cap < D.used
      · have hd1 : decide (D.n - usedF D.files < 0) = true := decide_eq_true (by omega)
        go_wp2_with fail
        refine (freeR_any B r D A2 n2 c2 xs2 wr HAT.out (by omega) (by omega) (by omega)).mono ?_
        rintro e w' ⟨rfl, q, rfl⟩
        go_wp2_with fail
        go_ret2
        rw [← HR.out, loadP_full HLG2.out hu]
        exact ⟨4, rfl, by omega, HM.out.drewN _⟩
      · have hd1 : decide (D.n - usedF D.files < 0) = false := decide_eq_false (by omega)
        go_wp2_with fail
        refine (freeR_any B r D A2 n2 c2 xs2 wr HAT.out (by omega) (by omega) (by omega)).mono ?_
        rintro e w' ⟨rfl, q, rfl⟩
        go_wp2_with fail
        go_ret2
        rw [← HR.out, loadP_done HLG2.out (by omega)]
        exact ⟨r, E, rfl, HD.out.mod0 ((Mod.refl Non wr).drewN q), HM.out.drewN _, HG.out⟩

end Go.Proofs.YtgdamcimpgapgaaGreatDoor

/- law05.both, the walk. -/
namespace Go.Proofs.YtgdamcimpgapgaaGreatDoor
open Go.RowKit

theorem Rd.of_ownW {w : World} {A : Option Addr} {n base : Nat} {e : TypeId} {c : Nat} {vs : List Value} (h : w.ownsRow base e 3 (.slice A n c) n vs) : Rd w A (n * 3) vs := Rd.of_own3 h

/-- what both answers. -/
def BoPost (R : Option Dk) (w : World) (e : Ending) (w' : World) : Prop := match R with
  | some D => ∃ d F r E, e = .returned (.tuple #[.pointer (some ⟨d, 0, none⟩), .pointer (some ⟨r, 0, none⟩)]) ∧ DiskIs w' F d D ∧ RkIs w' E r D ∧ Mod Non w w' ∧ (∀ k, F k → w.heap.size ≤ k ∧ ¬ E k) ∧ ∀ k, E k → w.heap.size ≤ k
  | none => e = .returned (.tuple #[.pointer none, .pointer none]) ∧ Mod Non w w'

set_option maxRecDepth 100000 in
set_option maxHeartbeats 2000000 in
theorem both_any (cap : Int) (A : Option Addr) (n c : Nat) (fs : List Fw) (w : World) (hL : Lay w) (h0 : 0 ≤ cap) (h1 : cap ≤ 1099511627776) (hx : Rd w A (n * 3) (flatW fs))
    (hb : ∀ x ∈ fs, Rd w x.A x.bytes.length (by8 x.bytes)) (hz : ∀ x ∈ fs, x.name.size ≤ 140737488351232) (hc : costW fs ≤ 1099511627776) (hn : n ≤ 100000000000) :
    Calls Tryz.prog 16 #[.int .i64 cap, .slice A n c] w (BoPost (loadP cap fs) w) := by
  obtain ⟨R, hR⟩ : ∃ R, loadP cap fs = R := ⟨_, rfl⟩
  rw [hR]
  have HR := Lib.hid hR
  have hlen : fs.length = n := by have := hx.1; rw [flatW_len] at this; omega
  have HN := Lib.hid hlen
  have HX := Lib.hid hx
  have HB := Lib.hid hb
  have HZ := Lib.hid hz
  have HL := Lib.hid hL
  clear hR hlen hx hb hL hz
  go_enter Tryz.func16, Tryz.ntmps16
  go_wp2_with fail
  go_loopw [6, 7] (fun v i wr => ∃ (k : Nat), k ≤ n ∧ i = .int .i64 k ∧ wr.ownsRow w.heap.size 69 3 v k (flatW (fs.take k)) ∧ Hid (Mod Non w wr)) (fun _ i _ => n - (intOf i).toNat)
  case atStart => exact ⟨0, Nat.zero_le _, rfl, World.ownsRow_nil _ _ _ _, Mod.refl _ _⟩
  case round =>
    obtain ⟨k, hk, rfl, hown, HM⟩ := hrel
    obtain ⟨Av, cv, rfl, hcv, hcv2⟩ := own_slice hown
    have hrw : w.heap.size ≤ wr.heap.size := HM.out.size
    have HOWN := Lib.hid hown
    have hrow := hown.lt
    clear hown
    by_cases hlt : k < n
    · obtain ⟨b, o, y, rfl, hy, k0, k1, k2⟩ := HX.out.fileW hlt
      have HSN := Lib.hid (take_snoc' fs k y hy)
      obtain ⟨yn, ysf, yb, yA, yc⟩ := y
      simp only at k0 k1 k2
      have K0 := Lib.hid k0
      have K1 := Lib.hid k1
      have K2 := Lib.hid k2
      have g0 := HM.out.cell k0 (fun h => h)
      have g1 := HM.out.cell k1 (fun h => h)
      have g2 := HM.out.cell k2 (fun h => h)
      have i1 : (0 : Int) ≤ (k : Int) := by omega
      have i2 : (k : Int) < (n : Int) := by omega
      have hbl : b < wr.heap.size := World.block_lt_of_cell? wr _ g2
      clear hy k0 k1 k2
      go_wp2_with fail
      go_region_held3 (fun w' => w'.cell? ⟨b, o + k * 3, none⟩ = some (.string yn) ∧ w'.cell? ⟨b, o + k * 3 + 1, none⟩ = some (.int .i64 ysf) ∧ w'.cell? ⟨b, o + k * 3 + 2, none⟩ = some (.slice yA yb.length yc))
        (first | exact ⟨g0q, g1q, g2q⟩ | go_keep)
        (first
          | (refine step_appW _ rfl (.tmp 18) (.tmp 35) rfl w.heap.size (.slice Av k cv) k (fs.take k) rfl ((own_mod (S := Non) HOWN.out ((Mod.refl Non wr).drew) (fun _ _ h => h)).alloc _) _ 1 1 [⟨yn, ysf, yb, yA, yc⟩] rfl (one_fileW _ _ ⟨yn, ysf, yb, yA, yc⟩) (by omega) (by simp; omega) ?_
             intro qA qc qw qhc qhcm qown qg qat
             have MW := Lib.hid ((HM.out.drew.alloc (.cells #[.string yn, .int .i64 ysf, .slice yA yb.length yc] 69)).trans (Mod.of_grown (S := fun g => (Value.slice Av k cv).ownBlock = some g) qg fun _ h => h) fun g hg => .inr (hrow g hg).1)
             have g0q := MW.out.cell K0.out (fun h => h)
             have g1q := MW.out.cell K1.out (fun h => h)
             have g2q := MW.out.cell K2.out (fun h => h)
             have QOWN := Lib.hid qown
             clear qown qg qat))
      all_goals
        clear g0q g1q g2q
        go_wp2_with fail
        go_roundw
        case rel => exact ⟨k + 1, by omega, by go_num, by rw [HSN.out]; exact QOWN.out, MW.out⟩
        case measure => simp [intOf]; omega
    · obtain rfl : k = n := by omega
      have hr := Rd.of_ownW HOWN.out
      rw [List.take_of_length_le (by rw [HN.out]; omega)] at hr
      have hld := Lib.hid (load_any cap Av k cv fs wr (HL.out.mod0 HM.out) h0 h1 hr (fun x hx => (HB.out x hx).mod0 HM.out) HZ.out hc hn)
      rw [HR.out] at hld
      clear hr
      go_wp2_with fail
      refine hld.out.mono ?_
      intro e w2 h2
      cases R with
      | some D =>
        obtain ⟨d, F, rfl, hd, hm2, hF⟩ := h2
        have HD := Lib.hid hd
        have HM2 := Lib.hid hm2
        have HF := Lib.hid hF
        have hlr := Lib.hid (loadR_any cap A k c fs w2 h0 h1 ((HX.out.mod0 HM.out).mod0 hm2) (fun x hx => ((HB.out x hx).mod0 HM.out).mod0 hm2) HZ.out hc hn)
        rw [HR.out] at hlr
        clear hd hm2 hF hld
        go_wp2_with fail
        refine hlr.out.mono ?_
        rintro e w3 ⟨r, E, rfl, hr, hm3, hE⟩
        have HRK := Lib.hid hr
        have HM3 := Lib.hid hm3
        have HE := Lib.hid hE
        clear hr hm3 hE hlr
        go_wp2_with fail
        go_ret2
        have hFl : ∀ j, F j → j < w2.heap.size := by
          obtain ⟨_, _, _, _, _, _, _, _, hl⟩ := HD.out
          exact hl
        have hz2 := HM2.out.size
        exact ⟨d, F, r, E, rfl, HD.out.mod0 HM3.out, HRK.out, (HM.out.trans0 HM2.out).trans0 HM3.out, fun j hj => ⟨by have := HF.out j hj; omega, fun e => by have := HE.out j e; have := hFl j hj; omega⟩, fun j hj => by have := HE.out j hj; omega⟩
      | none =>
        obtain ⟨e1, rfl, he1, hm2⟩ := h2
        have HM2 := Lib.hid hm2
        have hlr := Lib.hid (loadR_any cap A k c fs w2 h0 h1 ((HX.out.mod0 HM.out).mod0 hm2) (fun x hx => ((HB.out x hx).mod0 HM.out).mod0 hm2) HZ.out hc hn)
        rw [HR.out] at hlr
        have hq1 : (e1 == 0) = false := by simp [he1]
        clear hm2 hld
        go_wp2_with fail
        refine hlr.out.mono ?_
        rintro e w3 ⟨e2, rfl, he2, hm3⟩
        have HM3 := Lib.hid hm3
        clear hm3 hlr
        go_wp2_with fail
        go_ret2
        exact ⟨rfl, (HM.out.trans0 HM2.out).trans0 HM3.out⟩

end Go.Proofs.YtgdamcimpgapgaaGreatDoor

/- What a crash leaves of the files in the order of their names. Plain. -/
namespace Go.Proofs.YtgdamcimpgapgaaGreatDoor
open Go.RowKit

def crashF (f : Fl) (p : Option Int) : Fl := ⟨f.name, keepC f p, f.bytes.take (keepC f p)⟩
def crashS (picks : List Int) : Nat → List Fl → List Fl
  | _, [] => []
  | k, f :: r => crashF f picks[k]? :: crashS picks (k + 1) r
theorem crashS_names (picks : List Int) : ∀ (k : Nat) (L : List Fl), (crashS picks k L).map (·.name) = L.map (·.name)
  | _, [] => rfl
  | k, f :: r => by rw [crashS, List.map_cons, List.map_cons, crashS_names]; rfl
theorem crashS_get (picks : List Int) : ∀ (L : List Fl) (k i : Nat), (crashS picks k L)[i]? = L[i]?.map fun f => crashF f picks[k + i]?
  | [], _, _ => by simp [crashS]
  | f :: r, k, 0 => by simp [crashS]
  | f :: r, k, i + 1 => by
    rw [crashS, List.getElem?_cons_succ, List.getElem?_cons_succ, crashS_get picks r (k + 1) i, show k + 1 + i = k + (i + 1) by omega]
def notIn (M : List Fl) (nm : ByteArray) : Bool := M.all fun f => decide (f.name ≠ nm)
theorem notIn_iff {M : List Fl} {nm : ByteArray} : notIn M nm = true ↔ nm ∉ M.map (·.name) := by
  unfold notIn
  simp only [List.all_eq_true, decide_eq_true_eq, List.mem_map, not_exists, not_and]
theorem crashL_perm (picks : List Int) : ∀ (M : List Fl) (k : Nat) (D : Dk), (D.files.map (·.name)).Nodup → (M.map (·.name)).Nodup → (∀ f ∈ M, f ∈ D.files) →
    (crashL picks k (M.map (·.name)) D).files.Perm (crashS picks k M ++ D.files.filter fun g => notIn M g.name)
  | [], k, D, _, _, _ => by
    simp only [List.map_nil, crashL, crashS, List.nil_append]
    have e : D.files.filter (fun g => notIn [] g.name) = D.files := List.filter_eq_self.2 fun _ _ => rfl
    rw [e]
  | f :: r, k, D, nd, ndM, hM => by
    rw [List.map_cons] at ndM
    obtain ⟨n1, n2⟩ := List.nodup_cons.1 ndM
    have hf : findF D.files f.name = some f := (find_iff nd).2 ⟨hM f (.head _), rfl⟩
    have h1 : (crash1 D f.name picks[k]?).files = putF D.files (crashF f picks[k]?) := by unfold crash1; rw [hf]; rfl
    have hp : (crash1 D f.name picks[k]?).files.Perm (crashF f picks[k]? :: dropS f.name D.files) := by rw [h1]; exact putF_perm (crashF f picks[k]?) nd
    rw [List.map_cons, crashL, crashS]
    have ih := crashL_perm picks r (k + 1) (crash1 D f.name picks[k]?) (by rw [crash1_names]; exact nd) n2 (fun g hg => hp.mem_iff.2 (.tail _ (List.mem_filter.2 ⟨hM g (.tail _ hg), decide_eq_true fun e => n1 (List.mem_map.2 ⟨g, hg, e⟩)⟩)))
    refine ih.trans ?_
    have h2 := hp.filter fun g => notIn r g.name
    have h3 : (crashF f picks[k]? :: dropS f.name D.files).filter (fun g => notIn r g.name) = crashF f picks[k]? :: D.files.filter fun g => notIn (f :: r) g.name := by
      rw [List.filter_cons_of_pos (p := fun g : Fl => notIn r g.name) (a := crashF f picks[k]?) (l := dropS f.name D.files) (notIn_iff.2 n1)]
      congr 1
      unfold dropS
      rw [List.filter_filter]
      refine List.filter_congr fun g _ => ?_
      show (notIn r g.name && decide (g.name ≠ f.name)) = (decide (f.name ≠ g.name) && notIn r g.name)
      rw [Bool.and_comm]
      congr 1
      exact decide_eq_decide.2 ⟨fun h e => h e.symm, fun h e => h e.symm⟩
    rw [h3] at h2
    refine (h2.append_left (crashS picks (k + 1) r)).trans ?_
    exact List.perm_middle
theorem SortedOf.crash {D : Dk} {L : List Fl} (h : SortedOf D.files L) (nd : (D.files.map (·.name)).Nodup) (picks : List Int) : SortedOf (crashD D picks (L.map (·.name))).files (crashS picks 0 L) := by
  refine ⟨?_, ?_⟩
  · have := crashL_perm picks L 0 D nd (sorted_nodup h.sort) fun f hf => h.perm.mem_iff.1 hf
    rw [List.filter_eq_nil_iff.2 (fun g hg e => notIn_iff.1 e (List.mem_map.2 ⟨g, h.perm.mem_iff.2 hg, rfl⟩)), List.append_nil] at this
    exact this.symm
  · have h1 : (L.map keyF).Pairwise (· < ·) := List.Pairwise.map _ (fun _ _ h => h) h.sort
    have h2 : (crashS picks 0 L).map keyF = L.map keyF := by
      have := congrArg (List.map fun s : ByteArray => s.data.toList) (crashS_names picks 0 L)
      rw [List.map_map, List.map_map] at this
      exact this
    rw [← h2] at h1
    exact List.pairwise_map.1 h1

end Go.Proofs.YtgdamcimpgapgaaGreatDoor
