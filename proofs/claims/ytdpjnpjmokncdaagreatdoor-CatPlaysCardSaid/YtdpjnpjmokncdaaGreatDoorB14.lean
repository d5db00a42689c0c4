/- Load, plain: files that are handed in, laid on an empty disk one by one. -/
import Derived.Test.YtdpjnpjmokncdaaGreatDoorB13
import Derived.Test.YtdpjnpjmokncdaaGreatDoorB10
import Derived.Test.YtdpjnpjmokncdaaGreatDoorB11
import Derived.Test.YtdpjnpjmokncdaaGreatDoorB12
namespace Go.Proofs.YtdpjnpjmokncdaaGreatDoor
open Go.RowKit

/-- a file that is handed in. -/
structure Fw where
  name : ByteArray
  safe : Int
  bytes : List UInt8
  A : Option Addr
  c : Nat
def Fw.fl (x : Fw) : Fl := ⟨x.name, x.safe.toNat, x.bytes⟩
def Fw.cells (x : Fw) : List Value := [.string x.name, .int .i64 x.safe, .slice x.A x.bytes.length x.c]
def flatW : List Fw → List Value
  | [] => []
  | x :: r => x.cells ++ flatW r
theorem flatW_append (p q : List Fw) : flatW (p ++ q) = flatW p ++ flatW q := by
  induction p with
  | nil => rfl
  | cons b r ih => rw [List.cons_append, flatW, flatW, ih, List.append_assoc]
theorem flatW_len (xs : List Fw) : (flatW xs).length = xs.length * 3 := by
  induction xs with
  | nil => rfl
  | cons b r ih => rw [flatW, List.length_append, ih, List.length_cons]; simp [Fw.cells]; omega
theorem flatW_get {xs : List Fw} {i : Nat} {x : Fw} (h : xs[i]? = some x) (j : Nat) (hj : j < 3) : (flatW xs)[i * 3 + j]? = x.cells[j]? := by
  induction xs generalizing i with
  | nil => cases h
  | cons b r ih =>
    cases i with
    | zero =>
      simp only [List.getElem?_cons_zero, Option.some.injEq] at h
      subst h
      rw [flatW, Nat.zero_mul, Nat.zero_add, List.getElem?_append_left (by simp [Fw.cells]; omega)]
    | succ i =>
      rw [List.getElem?_cons_succ] at h
      have e : (i + 1) * 3 + j = (b.cells).length + (i * 3 + j) := by simp [Fw.cells]; omega
      rw [flatW, e, List.getElem?_append_right (by omega), Nat.add_sub_cancel_left]
      exact ih h
theorem Rd.fileW {w : World} {A : Option Addr} {n : Nat} {xs : List Fw} (h : Rd w A (n * 3) (flatW xs)) {i : Nat} (hi : i < n) :
    ∃ b o x, A = some ⟨b, o, none⟩ ∧ xs[i]? = some x ∧ w.cell? ⟨b, o + i * 3, none⟩ = some (.string x.name) ∧ w.cell? ⟨b, o + i * 3 + 1, none⟩ = some (.int .i64 x.safe) ∧ w.cell? ⟨b, o + i * 3 + 2, none⟩ = some (.slice x.A x.bytes.length x.c) := by
  have hl : xs.length = n := by have := h.1; rw [flatW_len] at this; omega
  obtain ⟨b, o, rfl, hc⟩ := h.2 (by omega)
  have hx : xs[i]? = some xs[i] := List.getElem?_eq_getElem (by omega)
  refine ⟨b, o, xs[i], rfl, hx, ?_, ?_, ?_⟩
  · exact hc (i * 3) _ (by rw [show i * 3 = i * 3 + 0 from rfl, flatW_get hx 0 (by omega)]; rfl)
  · rw [Nat.add_assoc]; exact hc (i * 3 + 1) _ (by rw [flatW_get hx 1 (by omega)]; rfl)
  · rw [Nat.add_assoc]; exact hc (i * 3 + 2) _ (by rw [flatW_get hx 2 (by omega)]; rfl)

/-- may a file not be laid? -/
def badW (D : Dk) (x : Fw) : Bool := !named x.name || ((findF D.files x.name).isSome || (decide (x.safe < 0) || decide ((x.bytes.length : Int) < x.safe)))
def addW (D : Dk) (x : Fw) : Dk := { D with used := D.used + costF x.fl, files := putF D.files x.fl }
def loadG : Dk → List Fw → Option Dk
  | D, [] => some D
  | D, x :: r => if badW D x then none else loadG (addW D x) r
def costW : List Fw → Int
  | [] => 0
  | x :: r => 116 + (x.bytes.length : Int) + costW r
def loadP (cap : Int) (fs : List Fw) : Option Dk := match loadG (newD cap) fs with
  | some D => if cap < D.used then none else some D
  | none => none

theorem loadG_append (q : List Fw) : ∀ (p : List Fw) (D : Dk), loadG D (p ++ q) = (loadG D p).bind fun E => loadG E q
  | [], _ => rfl
  | x :: r, D => by
    rw [List.cons_append, loadG, loadG]
    split
    · rfl
    · exact loadG_append q r _
theorem costW_nonneg : ∀ l : List Fw, 0 ≤ costW l
  | [] => Int.le_refl _
  | x :: r => by have := costW_nonneg r; simp only [costW]; omega
theorem costW_append (q : List Fw) : ∀ p : List Fw, costW (p ++ q) = costW p + costW q
  | [] => by simp [costW]
  | x :: r => by rw [List.cons_append, costW, costW, costW_append q r]; omega

/-- a disk that is being laid: it may be too full. -/
structure LdOk (cap : Int) (D : Dk) (xs : List Fw) : Prop where
  n : D.n = cap
  done : D.done = 0
  left : D.left = -1
  off : D.off = false
  used : D.used ≤ costW xs
  u0 : 0 ≤ D.used
  us : usedF D.files = D.used
  sf : ∀ f ∈ D.files, f.safe ≤ f.bytes.length
  nm : ∀ f ∈ D.files, named f.name = true
  nd : (D.files.map (·.name)).Nodup
  len : D.files.length = xs.length

theorem LdOk.start (cap : Int) : LdOk cap (newD cap) [] := ⟨rfl, rfl, rfl, rfl, Int.le_refl _, Int.le_refl _, rfl, by simp [newD], by simp [newD], by simp [newD], rfl⟩
theorem badW_no {D : Dk} {x : Fw} (h : badW D x = false) : named x.name = true ∧ findF D.files x.name = none ∧ 0 ≤ x.safe ∧ x.safe ≤ x.bytes.length := by
  unfold badW at h
  simp only [Bool.or_eq_false_iff, Bool.not_eq_false', decide_eq_false_iff_not, Option.isSome_eq_false_iff, Option.isNone_iff_eq_none] at h
  obtain ⟨h1, h2, h3, h4⟩ := h
  exact ⟨h1, h2, by omega, by omega⟩
theorem LdOk.next {cap : Int} {D : Dk} {xs : List Fw} (h : LdOk cap D xs) {x : Fw} (hb : badW D x = false) : LdOk cap (addW D x) (xs ++ [x]) := by
  obtain ⟨h1, h2, h3, h4⟩ := badW_no hb
  have hn : findF D.files x.fl.name = none := h2
  have hz : x.fl.name.size ≤ 100 := named_size h1
  refine ⟨h.n, h.done, h.left, h.off, ?_, ?_, ?_, ?_, ?_, nodup_put _ h.nd, ?_⟩
  · have hu := h.used
    show D.used + costF x.fl ≤ _
    have hb2 : x.fl.bytes.length = x.bytes.length := rfl
    rw [costW_append]
    simp only [costW, costF]
    omega
  · have hu := h.u0
    show 0 ≤ D.used + costF x.fl
    unfold costF
    omega
  · show usedF (putF D.files x.fl) = _
    rw [usedF_put_new _ hn, h.us]; rfl
  · intro f hf
    rcases mem_put hf with rfl | hf
    · show x.safe.toNat ≤ x.bytes.length
      omega
    · exact h.sf f hf
  · intro f hf
    rcases mem_put hf with rfl | hf
    · exact h1
    · exact h.nm f hf
  · have := congrArg List.length (names_put_new x.fl hn)
    simp only [List.length_map, List.length_append, List.length_cons, List.length_nil] at this
    rw [List.length_append, ← h.len]
    exact this
theorem LdOk.fin {cap : Int} {D : Dk} {xs : List Fw} (h : LdOk cap D xs) (h0 : 0 ≤ cap) (h1 : cap ≤ 1099511627776) (hu : D.used ≤ cap) : DkOk D :=
  ⟨by rw [h.n]; exact h0, by rw [h.n]; exact h1, h.u0, by rw [h.n]; exact hu, by rw [h.left]; omega, by rw [h.left]; omega, h.us, h.sf, h.nm, h.nd⟩
theorem loadG_ok {cap : Int} : ∀ {xs ys : List Fw} {D E : Dk}, LdOk cap D ys → loadG D xs = some E → LdOk cap E (ys ++ xs)
  | [], ys, D, E, h, he => by cases he; rwa [List.append_nil]
  | x :: r, ys, D, E, h, he => by
    rw [loadG] at he
    split at he
    · cases he
    · rename_i hb
      have := loadG_ok (h.next (by simpa using hb)) he
      rwa [List.append_assoc] at this
theorem loadP_ok {cap : Int} {xs : List Fw} {D : Dk} (h : loadP cap xs = some D) (h0 : 0 ≤ cap) (h1 : cap ≤ 1099511627776) : DkOk D := by
  unfold loadP at h
  cases hg : loadG (newD cap) xs with
  | none => rw [hg] at h; cases h
  | some E =>
    rw [hg] at h
    simp only at h
    split at h
    · cases h
    · cases h
      exact (loadG_ok (LdOk.start cap) hg).fin h0 h1 (by omega)

end Go.Proofs.YtdpjnpjmokncdaaGreatDoor

/- disk.Load, the walk. -/
namespace Go.Proofs.YtdpjnpjmokncdaaGreatDoor
open Go.RowKit

/-- what Load answers. -/
def LdPost (R : Option Dk) (w : World) (e : Ending) (w' : World) : Prop := match R with
  | some D => ∃ d F, e = .returned (.tuple #[.pointer (some ⟨d, 0, none⟩), .int .i64 0]) ∧ DiskIs w' F d D ∧ Mod Non w w' ∧ ∀ k, F k → w.heap.size ≤ k
  | none => ∃ E : Int, e = .returned (.tuple #[.pointer none, .int .i64 E]) ∧ E ≠ 0 ∧ Mod Non w w'
theorem DkAt.disk {w : World} {G : Nat → Prop} {d m : Nat} {kvs : List (ByteArray × Value)} {D : Dk} (h : DkAt w G d m kvs D) {B : Nat} (hG : ∀ j, G j → B ≤ j ∧ j < w.heap.size) (hd : B ≤ d) (hm : B ≤ m) (hp : powG < B) :
    DiskIs w (fun k => k = d ∨ k = m ∨ G k) d D :=
  ⟨G, m, kvs, h, .inl rfl, .inr (.inl rfl), fun _ h => .inr (.inr h), by rintro (h | h | h); omega; omega; have := (hG _ h).1; omega, by rintro k (rfl | rfl | hk); exact h.blk.lt; exact h.map.lt; exact (hG k hk).2⟩
theorem costW_mem {x : Fw} : ∀ {l : List Fw}, x ∈ l → 116 + (x.bytes.length : Int) ≤ costW l
  | [], h => by cases h
  | y :: r, h => by
    have := costW_nonneg r
    rcases List.mem_cons.1 h with rfl | h
    · simp only [costW]; omega
    · have := costW_mem h
      simp only [costW]; omega
theorem loadP_stop {cap : Int} {fs : List Fw} {k : Nat} {x : Fw} {E : Dk} (h : loadG (newD cap) (fs.take k) = some E) (hx : fs[k]? = some x) (hb : badW E x = true) : loadP cap fs = none := by
  have hlt : k < fs.length := (List.getElem?_eq_some_iff.1 hx).1
  have hd : fs.drop k = x :: fs.drop (k + 1) := by
    rw [List.drop_eq_getElem_cons hlt]
    congr 1
    exact (List.getElem?_eq_some_iff.1 hx).2
  have : loadG (newD cap) fs = none := by
    rw [← List.take_append_drop k fs, loadG_append, h, hd]
    show loadG E (x :: _) = none
    rw [loadG, if_pos hb]
  unfold loadP
  rw [this]
theorem loadP_full {cap : Int} {fs : List Fw} {E : Dk} (h : loadG (newD cap) fs = some E) (hu : cap < E.used) : loadP cap fs = none := by
  unfold loadP
  rw [h]
  exact if_pos hu
theorem loadP_done {cap : Int} {fs : List Fw} {E : Dk} (h : loadG (newD cap) fs = some E) (hu : ¬ cap < E.used) : loadP cap fs = some E := by
  unfold loadP
  rw [h]
  exact if_neg hu

set_option maxRecDepth 100000 in
set_option maxHeartbeats 2000000 in
theorem load_any (cap : Int) (A : Option Addr) (n c : Nat) (fs : List Fw) (w : World) (hL : Lay w) (h0 : 0 ≤ cap) (h1 : cap ≤ 1099511627776) (hx : Rd w A (n * 3) (flatW fs))
    (hb : ∀ x ∈ fs, Rd w x.A x.bytes.length (by8 x.bytes)) (hz : ∀ x ∈ fs, x.name.size ≤ 140737488351232) (hc : costW fs ≤ 1099511627776) (hn : n ≤ 100000000000) :
    Calls Tryz.prog 59 #[.int .i64 cap, .slice A n c] w (LdPost (loadP cap fs) w) := by
  obtain ⟨R, hR⟩ : ∃ R, loadP cap fs = R := ⟨_, rfl⟩
  rw [hR]
  have HR := Lib.hid hR
  have hlen : fs.length = n := by have := hx.1; rw [flatW_len] at this; omega
  have HLEN := Lib.hid hlen
  have HX := Lib.hid hx
  have HB := Lib.hid hb
  have HC := Lib.hid hc
  have HZ := Lib.hid hz
  have hpw := hL.lt
  have HN := Lib.hid (new_yes cap w hL h0 h1)
  clear hR hlen hx hb hc hL hz
  go_enter Tryz.func59, Tryz.ntmps59
  go_wp2_with (first
    | (go_at_call 10; refine HN.out.mono ?_; rintro e w1 ⟨d, F, rfl, hDI, hbw, hF⟩))
  have HM1 : Hid (Mod Non w w1) := Mod.of_below hbw
  obtain ⟨G0, m, kvs0, hA, hFd, hFm, hGF, hFp, hFl⟩ := hDI
  have hdw := hF d hFd
  have hmw := hF m hFm
  have hdl := hFl d hFd
  have hml := hFl m hFm
  have HA := Lib.hid hA
  have HG0 : Hid (∀ j, G0 j → w.heap.size ≤ j ∧ j < w1.heap.size) := fun j hj => ⟨hF j (hGF j hj), hFl j (hGF j hj)⟩
  clear hA hbw hF hFl hGF hFp
  go_loopw [20] (fun i wr => ∃ (k : Nat) (E : Dk) (kvs : List (ByteArray × Value)) (G : Nat → Prop), k ≤ n ∧ i = .int .i64 k ∧ w1.heap.size ≤ wr.heap.size ∧ Hid (DkAt wr G d m kvs E) ∧ Hid (∀ j, G j → w.heap.size ≤ j ∧ j < wr.heap.size) ∧ Hid (loadG (newD cap) (fs.take k) = some E) ∧ Hid (Mod Non w wr)) (fun i _ => n - idxN i)
  case atStart => exact ⟨0, newD cap, kvs0, G0, Nat.zero_le _, rfl, Nat.le_refl _, HA.out, HG0.out, rfl, HM1.out⟩
  case round =>
    obtain ⟨k, E, kvs, G, hk, rfl, hwr, HD, HG, HLG, HM⟩ := hrel
    by_cases hlt : k < n
    · obtain ⟨b, o, x, rfl, hxk, k0, k1, k2⟩ := (HX.out.mod0 HM.out).fileW hlt
      have hxm := List.mem_of_getElem? hxk
      have hxc := costW_mem hxm
      have hxb : x.name.size ≤ 140737488351232 ∧ x.bytes.length ≤ 1099511627776 := by
        have := HC.out
        have := HZ.out x hxm
        omega
      have HXK := Lib.hid hxk
      have HXB := Lib.hid ((HB.out x hxm).mod0 HM.out)
      have hlok := Lib.hid (loadG_ok (LdOk.start cap) HLG.out)
      obtain ⟨yn, ysf, yb, yA, yc⟩ := x
      simp only at k0 k1 k2 hxb
      obtain ⟨hx1, hx2⟩ := hxb
      have i1 : (0 : Int) ≤ (k : Int) := by omega
      have i2 : (k : Int) < (n : Int) := by omega
      have hdr : d < wr.heap.size := by omega
      have hmr : m < wr.heap.size := by omega
      clear hxk hxm hxc
      go_wp2_with fail
      have hbox : Blk (wr.alloc (.cells #[.string yn, .int .i64 ysf, .slice yA yb.length yc] 58)) wr.heap.size 58 #[.string yn, .int .i64 ysf, .slice yA yb.length yc] := Blk.new _ _ _
      have hma : Mod Non wr (wr.alloc (.cells #[.string yn, .int .i64 ysf, .slice yA yb.length yc] 58)) := (Mod.refl Non wr).alloc _
      generalize wr.alloc (.cells #[.string yn, .int .i64 ysf, .slice yA yb.length yc] 58) = W0 at *
      have HBX := Lib.hid hbox
      have HMA := Lib.hid hma
      have b0 : W0.cell? ⟨wr.heap.size, 0, none⟩ = some (.string yn) := hbox.cell 0
      clear hbox hma k0 k1 k2
      refine (named_any yn _ (by omega)).mono ?_
      rintro e w' ⟨rfl, rfl⟩
      have hbad : ∀ (W : World), badW E ⟨yn, ysf, yb, yA, yc⟩ = true → Mod Non W0 W → LdPost R w (.returned (.tuple #[.pointer none, .int .i64 1])) W := fun W hbd hW => by
        have := loadP_stop HLG.out HXK.out hbd
        rw [← HR.out, this]
        exact ⟨1, rfl, by omega, (HM.out.trans0 HMA.out).trans0 hW⟩
      have HBAD := Lib.hid hbad
      clear hbad
      obtain ⟨nb, hnb⟩ : ∃ nb, named yn = nb := ⟨_, rfl⟩
      rw [hnb]
      have HNB := Lib.hid hnb
      clear hnb
      cases nb with
      | false =>
        go_wp2_with fail
        go_ret2
        exact HBAD.out _ (by simp [badW, HNB.out]) (Mod.refl _ _)
      | true =>
        go_wp2_with fail
        have hD0 := HD.out.mod0 HMA.out
        refine (has_any yn _ d E W0 (hD0.disk (B := w.heap.size) (fun j hj => ⟨(HG.out j hj).1, Nat.lt_of_lt_of_le (HG.out j hj).2 HMA.out.size⟩) hdw hmw hpw)).mono ?_
        rintro e W1 ⟨rfl, hq⟩
        obtain ⟨hs, hhs⟩ : ∃ hs, (findF E.files yn).isSome = hs := ⟨_, rfl⟩
        rw [hhs]
        have HHS := Lib.hid hhs
        have HQ := Lib.hid hq
        have hbx1 := HBX.out.mod hq fun h => h
        have c1 : W1.cell? ⟨wr.heap.size, 1, none⟩ = some (.int .i64 ysf) := hbx1.cell 1
        have c2 : W1.cell? ⟨wr.heap.size, 2, none⟩ = some (.slice yA yb.length yc) := hbx1.cell 2
        clear hhs hq hD0
        cases hs with
        | true =>
          clear hbx1
          go_wp2_with fail
          go_ret2
          exact HBAD.out _ (by simp [badW, HHS.out]) HQ.out
        | false =>
          by_cases hs1 : ysf < 0
          · clear hbx1
            go_wp2_with fail
            go_ret2
            exact HBAD.out _ (by simp [badW, hs1]) HQ.out
          · by_cases hs2 : (yb.length : Int) < ysf
            · clear hbx1
              go_wp2_with fail
              go_ret2
              exact HBAD.out _ (by simp [badW, hs2]) HQ.out
            · have hnb : badW E ⟨yn, ysf, yb, yA, yc⟩ = false := by
                unfold badW
                simp only [HNB.out, HHS.out, Bool.not_true, Bool.false_or, Bool.or_eq_false_iff, decide_eq_false_iff_not]
                exact ⟨hs1, hs2⟩
              have HNBD := Lib.hid hnb
              have HBX1 := Lib.hid hbx1
              clear hnb hbx1
              go_wp2_with fail
              refine (clone_any yA yb.length yc yb _ ((HXB.out.mod0 HMA.out).mod0 HQ.out) (by omega)).mono ?_
              rintro e W2 ⟨pA, pc, rfl, pown, pb⟩
              have HM2 : Hid (Mod Non W1 W2) := Mod.of_below pb
              have hbx2 := HBX1.out.mod HM2.out fun h => h
              have POWN := Lib.hid pown
              have hs2z := HM2.out.size
              have hs1z := HQ.out.size
              have hs0z := HBX.out.lt
              obtain ⟨pA', pc', hpe, hpc, hpc2⟩ := own_slice pown
              cases hpe
              have c20 : W2.cell? ⟨wr.heap.size, 2, none⟩ = some (.slice yA yb.length yc) := hbx2.cell 2
              have f20 := hbx2.frozen 2
              have hbx3 := hbx2.set_ 2 (.slice pA yb.length pc)
              have hm3 : Mod (fun k => k = wr.heap.size) W2 (W2.setCell ⟨wr.heap.size, 2, none⟩ (.slice pA yb.length pc)) := (Mod.refl _ _).set1 2 _
              have hz3 : (W2.setCell ⟨wr.heap.size, 2, none⟩ (.slice pA yb.length pc)).heap.size = W2.heap.size := by simp
              clear pb pown hbx2 c1 c2 b0
              go_wp2_with fail
              clear c20 f20
              generalize W2.setCell ⟨wr.heap.size, 2, none⟩ (.slice pA yb.length pc) = W3 at *
              have HM3 := Lib.hid hm3
              have HBX3 := Lib.hid hbx3
              have HD3 := Lib.hid ((((HD.out.mod0 HMA.out).mod0 HQ.out).mod0 HM2.out).mod hm3 (by omega) (by omega) (fun j hj => by have := (HG.out j hj).2; omega) (by omega))
              have e0 : W3.cell? ⟨wr.heap.size, 0, none⟩ = some (.string yn) := hbx3.cell 0
              have e1 : W3.cell? ⟨wr.heap.size, 1, none⟩ = some (.int .i64 ysf) := hbx3.cell 1
              have e2 : W3.cell? ⟨wr.heap.size, 2, none⟩ = some (.slice pA yb.length pc) := hbx3.cell 2
              have g2 : W3.cell? ⟨d, 2, none⟩ = some (.map (some m)) := HD3.out.blk.cell 2
              clear hm3 hbx3
              have tok : True := trivial
              go_region_held3 (fun w' => w'.cell? ⟨d, 2, none⟩ = some (.map (some m)) ∧ w'.cell? ⟨wr.heap.size, 0, none⟩ = some (.string yn) ∧ w'.cell? ⟨wr.heap.size, 1, none⟩ = some (.int .i64 ysf) ∧ w'.cell? ⟨wr.heap.size, 2, none⟩ = some (.slice pA yb.length pc))
                (first | go_keep)
                (first
                  | (have _t := tok
                     obtain ⟨w3, hrun, hp3, hm3⟩ := MapAt.run_put (P := Tryz.prog) strKey (HD3.out.map.mod0' ((Mod.refl Non W3).drew)) Tryz.underlying77 Tryz.underlying9 yn (.agg #[.string yn, .int .i64 ysf, .slice pA yb.length pc])
                     rw [hrun]
                     clear hrun
                     have g23 := hm3.cell g2 (p := ⟨d, 2, none⟩) (fun e => HD.out.dm e)
                     have b03 := hm3.cell e0 (p := ⟨wr.heap.size, 0, none⟩) (fun e => by simp only at e; omega)
                     have b13 := hm3.cell e1 (p := ⟨wr.heap.size, 1, none⟩) (fun e => by simp only at e; omega)
                     have b23 := hm3.cell e2 (p := ⟨wr.heap.size, 2, none⟩) (fun e => by simp only at e; omega)
                     simp only [Result.andThen, Oper.upon]))
              have hm3' : Mod (fun j => j = m) W3 w3 := ((Mod.refl Non W3).drew).non.trans hm3 (fun _ h => .inl h)
              have hpo := own_base POWN.out
              have hnz := named_size HNB.out
              have hsf : ((ysf.toNat : Nat) : Int) = ysf := by omega
              have hfl3 : FlAt w3 (fun j => G j ∨ blkOf pA = some j) (yn, .agg #[.string yn, .int .i64 ysf, .slice pA yb.length pc]) ⟨yn, ysf.toNat, yb⟩ := by
                refine ⟨rfl, pA, pc, by simp only [hsf], ?_, hpc, by have : maxLen = 9223372036854775807 := rfl; omega, fun j hj => .inr hj⟩
                have r2 := (Rd.of_own POWN.out).mod HM3.out fun _ j hj e => by have := hpo j hj; omega
                exact r2.mod hm3' fun _ j hj e => by have := hpo j hj; omega
              have hD4 := HD3.out.stored (f := ⟨yn, ysf.toNat, yb⟩) (B := w1.heap.size) hp3 hm3' (fun j hj => .inl hj) hfl3 (fun j hj => hj.imp id fun h => by have := hpo j h; omega) hdl hml
              have HD4 := Lib.hid hD4
              have HM4 := Lib.hid hm3'
              have d1 : w3.cell? ⟨d, 1, none⟩ = some (.int .i64 E.used) := hD4.blk.cell 1
              have f1 := hD4.blk.frozen 1
              have hu0 : 0 ≤ E.used ∧ E.used ≤ 1099511627776 := by
                have h1 := hlok.out.used
                have h0u := hlok.out.u0
                have h2 := costW_nonneg ([] ++ fs.take k)
                have h3 := costW_append (fs.drop k) (fs.take k)
                have h4 := costW_nonneg (fs.drop k)
                rw [List.take_append_drop] at h3
                rw [List.nil_append] at h1 h2
                have := HC.out
                omega
              have q1 : IntKind.i64.wrap (E.used + (16 + (yn.size : Int) + (yb.length : Int))) = E.used + (16 + (yn.size : Int) + (yb.length : Int)) := IntWalk.i64_in _ (by omega)
              clear hD4 hm3' hfl3 hp3 hm3 g23 b13 e0 e1 e2 g2
              have HPO := Lib.hid hpo
              clear hpo
              go_wp2_with fail
              go_region_with (go_at_call 53; refine (cost_any yn yb.length _ (by omega) (by omega)).mono ?_; rintro e w' ⟨rfl, rfl⟩)
              all_goals
                go_wp2_with fail
                have hm9 : Mod Non w (w3.drew.setCell ⟨d, 1, none⟩ (.int .i64 (E.used + (16 + (yn.size : Int) + (yb.length : Int))))) :=
                  ((((((HM.out.trans0 HMA.out).trans0 HQ.out).trans0 HM2.out).trans HM3.out fun j hj => .inr (by omega)).trans HM4.out fun j hj => .inr (by omega)).drew).setCell (p := ⟨d, 1, none⟩) (.inr hdw) _
                have hD9 : DkAt (w3.drew.setCell ⟨d, 1, none⟩ (.int .i64 (E.used + (16 + (yn.size : Int) + (yb.length : Int))))) (fun j => G j ∨ blkOf pA = some j) d m (putKV kvs yn (.agg #[.string yn, .int .i64 ysf, .slice pA yb.length pc])) (addW E ⟨yn, ysf, yb, yA, yc⟩) :=
                  (HD4.out.mod0 ((Mod.refl Non _).drew)).setUsed _
                have hz9 : (w3.setCell ⟨d, 1, none⟩ (.int .i64 (E.used + (16 + (yn.size : Int) + (yb.length : Int))))).drew.heap.size = w3.heap.size := by simp [World.setCell]
                have hz4 := HM4.out.size
                have hlg9 : loadG (newD cap) (fs.take (k + 1)) = some (addW E ⟨yn, ysf, yb, yA, yc⟩) := by
                  rw [take_snoc' fs k _ HXK.out, loadG_append, HLG.out]
                  show loadG E [_] = _
                  rw [loadG, if_neg (by rw [HNBD.out]; exact Bool.noConfusion)]
                  rfl
                have hplt := POWN.out.lt
                go_roundw
                case rel =>
                  refine ⟨k + 1, _, _, _, by omega, by go_num, by omega, hD9, ?_, hlg9, hm9⟩
                  intro j hj
                  rcases hj with hj | hj
                  · exact ⟨(HG.out j hj).1, by have := (HG.out j hj).2; omega⟩
                  · exact ⟨by have := HPO.out j hj; omega, by have := (hplt j (by rw [slice_blk]; exact hj)).2; omega⟩
                case measure => simp [idxN]; omega
    · obtain rfl : k = n := by omega
      have hlg := HLG.out
      rw [List.take_of_length_le (by rw [HLEN.out]; omega)] at hlg
      have d1 : wr.cell? ⟨d, 1, none⟩ = some (.int .i64 E.used) := HD.out.blk.cell 1
      have HLG2 := Lib.hid hlg
      clear hlg
      by_cases hu : cap < E.used
      · go_wp2_with fail
        go_ret2
        rw [← HR.out, loadP_full HLG2.out hu]
        exact ⟨4, rfl, by omega, HM.out⟩
      · go_wp2_with fail
        go_ret2
        rw [← HR.out, loadP_done HLG2.out (by omega)]
        exact ⟨d, _, rfl, HD.out.disk (B := w.heap.size) HG.out hdw hmw hpw, HM.out, by rintro j (rfl | rfl | h); exact hdw; exact hmw; exact (HG.out j h).1⟩

end Go.Proofs.YtdpjnpjmokncdaaGreatDoor

/- Append of one handed-in file to a row of disk.File, inside a drawn region (law05.both). -/
namespace Go.Proofs.YtdpjnpjmokncdaaGreatDoor
open Go.RowKit

theorem flatW_one (xs : List Fw) : ∀ u ∈ flatW xs, u.oneCell' = true := by
  induction xs with
  | nil => intro u hu; cases hu
  | cons x r ih =>
    intro u hu
    rw [flatW, List.mem_append] at hu
    rcases hu with hu | hu
    · simp only [Fw.cells, List.mem_cons, List.not_mem_nil, or_false] at hu
      rcases hu with rfl | rfl | rfl <;> rfl
    · exact ih u hu
theorem one_fileW (w : World) (t : TypeId) (x : Fw) : Rd (w.alloc (.cells #[.string x.name, .int .i64 x.safe, .slice x.A x.bytes.length x.c] t)) (some ⟨w.heap.size, 0, none⟩) (1 * 3) (flatW [x]) := by
  refine ⟨rfl, fun _ => ⟨w.heap.size, 0, rfl, fun j u hu => ?_⟩⟩
  rw [Nat.zero_add, cell_of_row _ _ j _ t (0, 0) (heap_alloc_new w _)]
  match j, hu with
  | 0, hu => exact hu
  | 1, hu => exact hu
  | 2, hu => exact hu
theorem step_appW (w : World) {ops : Array Oper} {o : Oper} {a : Act} {K : Act → World → Prop} {Q : Exit → Act → World → Prop} {Z : Prop} (hgd : o.guard = none) (s x : Operand)
    (ho : o.op = .call { callee := .builtin .append, args := #[s, x], argTypes := #[55, 55] })
    (base : Nat) (v : Value) (n : Nat) (xs : List Fw) (hs : a.eval s = v) (hown : w.ownsRow base 58 3 v n (flatW xs))
    (A : Option Addr) (m c : Nat) (news : List Fw) (hx : a.eval x = .slice A m c) (hr : Rd w A (m * 3) (flatW news))
    (h63 : n + m ≤ 1000000000000) (hbase : base ≤ w.heap.size)
    (h : ∀ A' c' w', n + m ≤ c' → c' ≤ 9223372036854775807 → w'.ownsRow base 58 3 (.slice A' (n + m) c') (n + m) (flatW (xs ++ news)) → w.grownBy w' v.ownBlock → (blkOf A' = v.ownBlock ∨ blkOf A' = some w.heap.size) → K (a.put o.dst (.slice A' (n + m) c')) w') : if Region.wanted o (yielded ops a.tmps) = true then Oper.wp Tryz.prog o a w K Q else Z := by
  obtain ⟨i, z, hi, hz, hs1, hb, hzs⟩ := rowD
  have hw : Region.wanted o (yielded ops a.tmps) = true := by simp [Region.wanted, hgd]
  rw [if_pos hw]
  obtain ⟨v', w', hrun, h2, h3, h4⟩ := run_app3 (P := Tryz.prog) w base 55 o.type 58 i z 48 Tryz.underlying55 hi hz hs1 hb hzs v n (flatW xs) hown A m c (flatW news) hr (flatW_one _) (by simp only [maxLen]; omega) (by omega) hbase
  obtain ⟨A', c', rfl, hc, hcm⟩ := own_slice h2
  unfold Oper.wp execOp
  simp only [ho, resolve, invoke, builtin, Sem.run_bind, Sem.run_pure, Result.andThen_ok, List.map_toArray, List.map_cons, List.map_nil, hs, hx, hrun]
  rw [← flatW_append] at h2
  exact h A' c' w' hc (by have : maxLen = 9223372036854775807 := rfl; omega) h2 h3 (by cases A' <;> exact h4)

end Go.Proofs.YtdpjnpjmokncdaaGreatDoor

/- sawyerref04.Load, the walk. -/
namespace Go.Proofs.YtdpjnpjmokncdaaGreatDoor
open Go.RowKit

/-- what the reference's Load answers. -/
def LrPost (R : Option Dk) (w : World) (e : Ending) (w' : World) : Prop := match R with
  | some D => ∃ r E, e = .returned (.tuple #[.pointer (some ⟨r, 0, none⟩), .int .i64 0]) ∧ RkIs w' E r D ∧ Mod Non w w' ∧ ∀ k, E k → w.heap.size ≤ k
  | none => ∃ E : Int, e = .returned (.tuple #[.pointer none, .int .i64 E]) ∧ E ≠ 0 ∧ Mod Non w w'

theorem RkIs.used {w : World} {E : Nat → Prop} {r : Nat} {D : Dk} (h : RkIs w E r D) (u : Int) : RkIs w E r { D with used := u } := by
  obtain ⟨B, A, n, c, xs, h1, h2, h3, h4⟩ := h
  exact ⟨B, A, n, c, xs, ⟨h1.blk, h1.row, h1.nc, h1.cm, h1.fs, h1.byt, h1.rowB, h1.rB⟩, h2, h3, h4⟩

set_option maxRecDepth 100000 in
set_option maxHeartbeats 2000000 in
theorem loadR_any (cap : Int) (A : Option Addr) (n c : Nat) (fs : List Fw) (w : World) (h0 : 0 ≤ cap) (h1 : cap ≤ 1099511627776) (hx : Rd w A (n * 3) (flatW fs))
    (hb : ∀ x ∈ fs, Rd w x.A x.bytes.length (by8 x.bytes)) (hz : ∀ x ∈ fs, x.name.size ≤ 140737488351232) (hc : costW fs ≤ 1099511627776) (hn : n ≤ 100000000000) :
    Calls Tryz.prog 60 #[.int .i64 cap, .slice A n c] w (LrPost (loadP cap fs) w) := by
  obtain ⟨R, hR⟩ : ∃ R, loadP cap fs = R := ⟨_, rfl⟩
  rw [hR]
  have HR := Lib.hid hR
  have hlen : fs.length = n := by have := hx.1; rw [flatW_len] at this; omega
  have HLEN := Lib.hid hlen
  have HX := Lib.hid hx
  have HB := Lib.hid hb
  have HC := Lib.hid hc
  have HZ := Lib.hid hz
  have HN := Lib.hid (newR_yes cap w h0 h1)
  clear hR hlen hx hb hc hz
  go_enter Tryz.func60, Tryz.ntmps60
  go_wp2_with (first
    | (go_at_call 95; refine HN.out.mono ?_; rintro e w1 ⟨r, E0, rfl, hRI, hmw, hF⟩))
  have HM1 := Lib.hid hmw
  have HRI := Lib.hid hRI
  have HF := Lib.hid hF
  clear hRI hmw hF
  go_loopw [8] (fun i wr => ∃ (k : Nat) (D : Dk) (E : Nat → Prop), k ≤ n ∧ i = .int .i64 k ∧ Hid (RkIs wr E r D) ∧ Hid (∀ j, E j → w.heap.size ≤ j) ∧ Hid (loadG (newD cap) (fs.take k) = some D) ∧ Hid (Mod Non w wr)) (fun i _ => n - idxN i)
  case atStart => exact ⟨0, newD cap, E0, Nat.zero_le _, rfl, HRI.out, HF.out, rfl, HM1.out⟩
  case round =>
    obtain ⟨k, D, E, hk, rfl, HD, HG, HLG, HM⟩ := hrel
    by_cases hlt : k < n
    · obtain ⟨b, o, x, rfl, hxk, k0, k1, k2⟩ := (HX.out.mod0 HM.out).fileW hlt
      have hbw : b < w.heap.size := by
        obtain ⟨b', o', x', he, _, kk, _⟩ := HX.out.fileW hlt
        cases he
        exact World.block_lt_of_cell? w _ kk
      have hxm := List.mem_of_getElem? hxk
      have hxc := costW_mem hxm
      have hxb : x.name.size ≤ 140737488351232 ∧ x.bytes.length ≤ 1099511627776 := by
        have := HC.out
        have := HZ.out x hxm
        omega
      have HXK := Lib.hid hxk
      have HXB := Lib.hid ((HB.out x hxm).mod0 HM.out)
      have hlok := Lib.hid (loadG_ok (LdOk.start cap) HLG.out)
      obtain ⟨yn, ysf, yb, yA, yc⟩ := x
      simp only at k0 k1 k2 hxb
      obtain ⟨hx1, hx2⟩ := hxb
      have i1 : (0 : Int) ≤ (k : Int) := by omega
      have i2 : (k : Int) < (n : Int) := by omega
      have hbl : b < wr.heap.size := World.block_lt_of_cell? wr _ k2
      have hbad : ∀ (W : World), badW D ⟨yn, ysf, yb, yA, yc⟩ = true → Mod Non wr W → LrPost R w (.returned (.tuple #[.pointer none, .int .i64 1])) W := fun W hbd hW => by
        have := loadP_stop HLG.out HXK.out hbd
        rw [← HR.out, this]
        exact ⟨1, rfl, by omega, HM.out.trans0 hW⟩
      have HBAD := Lib.hid hbad
      clear hbad hxk hxm hxc
      obtain ⟨nb, hnb⟩ : ∃ nb, named yn = nb := ⟨_, rfl⟩
      have HNB := Lib.hid hnb
      have HQN : Hid (∀ W, Calls Tryz.prog 96 #[.string yn] W fun e w' => e = .returned (.bool nb) ∧ w' = W) := fun W => by
        have := namedR_any yn W (by omega)
        rw [HNB.out] at this
        exact this.mono fun _ _ h => ⟨h.1, h.2.symm⟩
      clear hnb
      obtain ⟨hs, hhs⟩ : ∃ hs, (findF D.files yn).isSome = hs := ⟨_, rfl⟩
      have HHS := Lib.hid hhs
      have HQH : Hid (∀ q, Calls Tryz.prog 97 #[.pointer (some ⟨r, 0, none⟩), .string yn] (wr.drewN q) fun e w' => e = .returned (.bool hs) ∧ w' = wr.drewN q) := fun q => by
        have := hasR_any yn E r D (wr.drewN q) (HD.out.mod0 ((Mod.refl Non wr).drewN q)) hlok.out.nd
        rw [HHS.out] at this
        exact this.mono fun _ _ h => ⟨h.1, h.2.symm⟩
      clear hhs
      cases nb with
      | false =>
        go_wp2_with fail
        go_quiet (first | (go_at_call 96; refine Calls.quiet_of_same (HQN.out _)))
        go_wp2_with fail
        go_ret2
        exact HBAD.out _ (by simp [badW, HNB.out]) ((Mod.refl _ _).drewN _)
      | true =>
        cases hs with
        | true =>
          go_wp2_with fail
          go_quiet (first
            | (go_at_call 96; refine Calls.quiet_of_same (HQN.out _))
            | (go_at_call 97; refine Calls.quiet_of_same (HQH.out _)))
          go_wp2_with fail
          go_ret2
          exact HBAD.out _ (by simp [badW, HHS.out]) ((Mod.refl _ _).drewN _)
        | false =>
          by_cases hs1 : ysf < 0
          · have hd1 : decide (ysf < 0) = true := decide_eq_true hs1
            go_wp2_with fail
            go_quiet (first
              | (go_at_call 96; refine Calls.quiet_of_same (HQN.out _))
              | (go_at_call 97; refine Calls.quiet_of_same (HQH.out _)))
            go_wp2_with fail
            go_ret2
            exact HBAD.out _ (by simp [badW, hs1]) ((Mod.refl _ _).drewN _)
          · have hd1 : decide (ysf < 0) = false := decide_eq_false hs1
            by_cases hs2 : (yb.length : Int) < ysf
            · have hd2 : decide ((yb.length : Int) < ysf) = true := decide_eq_true hs2
              go_wp2_with fail
              go_quiet (first
                | (go_at_call 96; refine Calls.quiet_of_same (HQN.out _))
                | (go_at_call 97; refine Calls.quiet_of_same (HQH.out _)))
              go_wp2_with fail
              go_ret2
              exact HBAD.out _ (by simp [badW, hs2]) ((Mod.refl _ _).drewN _)
            · have hd2 : decide ((yb.length : Int) < ysf) = false := decide_eq_false hs2
              go_wp2_with fail
              go_quiet (first
                | (go_at_call 96; refine Calls.quiet_of_same (HQN.out _))
                | (go_at_call 97; refine Calls.quiet_of_same (HQH.out _)))
              go_wp2_with fail
              have hnbd : badW D ⟨yn, ysf, yb, yA, yc⟩ = false := by
                unfold badW
                simp only [HNB.out, HHS.out, Bool.not_true, Bool.false_or, Bool.or_eq_false_iff, decide_eq_false_iff_not]
                exact ⟨by omega, by omega⟩
              have HNBD := Lib.hid hnbd
              obtain ⟨s, rfl⟩ : ∃ s : Nat, ysf = s := ⟨ysf.toNat, by omega⟩
              have hmq : Mod Non wr (wr.drewN nq) := (Mod.refl Non wr).drewN nq
              generalize wr.drewN nq = W at *
              have HMQ := Lib.hid hmq
              have K0 := Lib.hid (hmq.cell k0 (fun h => h))
              have K1 := Lib.hid (hmq.cell k1 (fun h => h))
              have K2 := Lib.hid (hmq.cell k2 (fun h => h))
              have g0 := K0.out
              have g1 := K1.out
              have g2 := K2.out
              have hrE : E r ∧ r < wr.heap.size := by
                obtain ⟨B, A2, n2, c2, xs2, hat, hE, hBE, hEl⟩ := HD.out
                exact ⟨hE, hEl r hE⟩
              have hrw := HG.out r hrE.1
              have hbr : b < W.heap.size := Nat.lt_of_lt_of_le hbl hmq.size
              have hszq := hmq.size
              have hrE2 := hrE.2
              have hfl : D.files.length ≤ 100000000000 := by
                have := hlok.out.len
                rw [List.nil_append, List.length_take] at this
                omega
              clear hnbd hmq k0 k1 k2 hd1 hd2 hrE
              go_region_held3 (fun w' => w'.cell? ⟨b, o + k * 3, none⟩ = some (.string yn) ∧ w'.cell? ⟨b, o + k * 3 + 1, none⟩ = some (.int .i64 (s : Int)) ∧ w'.cell? ⟨b, o + k * 3 + 2, none⟩ = some (.slice yA yb.length yc))
                (first | exact ⟨g0q, g1q, g2q⟩ | go_keep)
                (first
                  | (refine step_app8 bt _ rfl (.tmp 72) (.tmp 77) rfl W.heap.size (.slice (some ⟨W.heap.size, 0, none⟩) 0 0) 0 [] rfl (own_empty W.drew 5 1) yA yb.length yc yb rfl (((HXB.out.mod0 HMQ.out).drew).alloc _) yb.length (by omega) yb rfl (by omega) (by simp) ?_
                     intro pA pc pw phc pown pg pat
                     have MP := Lib.hid ((((Mod.refl Non W).drew).alloc (.cells #[] 5)).trans (Mod.of_grown (S := fun g => (Value.slice (some ⟨W.heap.size, 0, none⟩) 0 0).ownBlock = some g) pg fun _ h => h) fun g hg => .inr (by simp [Value.ownBlock] at hg; omega))
                     have g0p := MP.out.cell g0 (fun h => h)
                     have g1p := MP.out.cell g1 (fun h => h)
                     have g2p := MP.out.cell g2 (fun h => h)
                     have hpz := MP.out.size
                     have POWN := Lib.hid pown
                     clear pown pg pat)
                  | (go_at_call 98
                     refine (put_any ⟨⟨yn, s, yb⟩, pA, pc⟩ E r D pw ((HD.out.mod0 HMQ.out).mod0 MP.out) hlok.out.nd hfl (Rd.of_own POWN.out) (by obtain ⟨_, _, he, h1, h2⟩ := own_slice POWN.out; cases he; exact h1) (by obtain ⟨_, _, he, h1, h2⟩ := own_slice POWN.out; cases he; have hm : maxLen = 9223372036854775807 := rfl; show pc ≤ _; omega) (fun g hg => ⟨by have := own_base POWN.out g hg; omega, (POWN.out.lt g (by rw [slice_blk]; exact hg)).2⟩)).mono ?_
                     rintro e qw ⟨rfl, E', hR3, hm3, hE3⟩
                     have g0q := hm3.cell g0p (p := ⟨b, o + k * 3, none⟩) (fun e => by have e : b = r := e; omega)
                     have g1q := hm3.cell g1p (p := ⟨b, o + k * 3 + 1, none⟩) (fun e => by have e : b = r := e; omega)
                     have g2q := hm3.cell g2p (p := ⟨b, o + k * 3 + 2, none⟩) (fun e => by have e : b = r := e; omega)))
              all_goals
                go_wp2_with fail
                have hm9 : Mod Non w qw := ((HM.out.trans0 HMQ.out).trans0 MP.out).trans hm3 fun j hj => .inr (by omega)
                have hlg9 : loadG (newD cap) (fs.take (k + 1)) = some (addW D ⟨yn, s, yb, yA, yc⟩) := by
                  rw [take_snoc' fs k _ HXK.out, loadG_append, HLG.out]
                  show loadG D [_] = _
                  rw [loadG, if_neg (by rw [HNBD.out]; exact Bool.noConfusion)]
                  rfl
                have hr9 : RkIs qw E' r (addW D ⟨yn, s, yb, yA, yc⟩) := hR3.used _
                have hwm := HM.out.size
                have hpo := own_base POWN.out
                go_roundw
                case rel =>
                  refine ⟨k + 1, _, E', by omega, by go_num, hr9, ?_, hlg9, hm9⟩
                  intro j hj
                  rcases hE3 j hj with h | h | h
                  · exact HG.out j h
                  · have := hpo j h; omega
                  · omega
                case measure => simp [idxN]; omega
    · obtain rfl : k = n := by omega
      have hlg := HLG.out
      rw [List.take_of_length_le (by rw [HLEN.out]; omega)] at hlg
      have hlok := loadG_ok (LdOk.start cap) hlg
      have hus := hlok.us
      have hud := hlok.used
      have hcn := hlok.n
      rw [List.nil_append] at hud
      have hcc := HC.out
      have HLG2 := Lib.hid hlg
      obtain ⟨B, A2, n2, c2, xs2, hat, hE, hBE, hEl⟩ := HD.out
      have HAT := Lib.hid hat
      clear hlg hlok hat
      by_cases hu : cap < D.used
      · have hd1 : decide (D.n - usedF D.files < 0) = true := decide_eq_true (by omega)
        go_wp2_with fail
        refine (freeR_any B r D A2 n2 c2 xs2 wr HAT.out (by omega) (by omega) (by omega)).mono ?_
        rintro e w' ⟨rfl, q, rfl⟩
        go_wp2_with fail
        go_ret2
        rw [← HR.out, loadP_full HLG2.out hu]
        exact ⟨4, rfl, by omega, HM.out.drewN _⟩
      · have hd1 : decide (D.n - usedF D.files < 0) = false := decide_eq_false (by omega)
        go_wp2_with fail
        refine (freeR_any B r D A2 n2 c2 xs2 wr HAT.out (by omega) (by omega) (by omega)).mono ?_
        rintro e w' ⟨rfl, q, rfl⟩
        go_wp2_with fail
        go_ret2
        rw [← HR.out, loadP_done HLG2.out (by omega)]
        exact ⟨r, E, rfl, HD.out.mod0 ((Mod.refl Non wr).drewN q), HM.out.drewN _, HG.out⟩

end Go.Proofs.YtdpjnpjmokncdaaGreatDoor

/- law11.both, the walk. -/
namespace Go.Proofs.YtdpjnpjmokncdaaGreatDoor
open Go.RowKit

theorem Rd.of_ownW {w : World} {A : Option Addr} {n base : Nat} {e : TypeId} {c : Nat} {vs : List Value} (h : w.ownsRow base e 3 (.slice A n c) n vs) : Rd w A (n * 3) vs := Rd.of_own3 h

/-- what both answers. -/
def BoPost (R : Option Dk) (w : World) (e : Ending) (w' : World) : Prop := match R with
  | some D => ∃ d F r E, e = .returned (.tuple #[.pointer (some ⟨d, 0, none⟩), .pointer (some ⟨r, 0, none⟩)]) ∧ DiskIs w' F d D ∧ RkIs w' E r D ∧ Mod Non w w' ∧ (∀ k, F k → w.heap.size ≤ k ∧ ¬ E k) ∧ ∀ k, E k → w.heap.size ≤ k
  | none => e = .returned (.tuple #[.pointer none, .pointer none]) ∧ Mod Non w w'

set_option maxRecDepth 100000 in
set_option maxHeartbeats 2000000 in
theorem both_any (cap : Int) (A : Option Addr) (n c : Nat) (fs : List Fw) (w : World) (hL : Lay w) (h0 : 0 ≤ cap) (h1 : cap ≤ 1099511627776) (hx : Rd w A (n * 3) (flatW fs))
    (hb : ∀ x ∈ fs, Rd w x.A x.bytes.length (by8 x.bytes)) (hz : ∀ x ∈ fs, x.name.size ≤ 140737488351232) (hc : costW fs ≤ 1099511627776) (hn : n ≤ 100000000000) :
    Calls Tryz.prog 21 #[.int .i64 cap, .slice A n c] w (BoPost (loadP cap fs) w) := by
  obtain ⟨R, hR⟩ : ∃ R, loadP cap fs = R := ⟨_, rfl⟩
  rw [hR]
  have HR := Lib.hid hR
  have hlen : fs.length = n := by have := hx.1; rw [flatW_len] at this; omega
  have HN := Lib.hid hlen
  have HX := Lib.hid hx
  have HB := Lib.hid hb
  have HZ := Lib.hid hz
  have HL := Lib.hid hL
  clear hR hlen hx hb hL hz
  go_enter Tryz.func21, Tryz.ntmps21
  go_wp2_with fail
  go_loopw [6, 7] (fun v i wr => ∃ (k : Nat), k ≤ n ∧ i = .int .i64 k ∧ wr.ownsRow w.heap.size 58 3 v k (flatW (fs.take k)) ∧ Hid (Mod Non w wr)) (fun _ i _ => n - (intOf i).toNat)
  case atStart => exact ⟨0, Nat.zero_le _, rfl, World.ownsRow_nil _ _ _ _, Mod.refl _ _⟩
  case round =>
    obtain ⟨k, hk, rfl, hown, HM⟩ := hrel
    obtain ⟨Av, cv, rfl, hcv, hcv2⟩ := own_slice hown
    have hrw : w.heap.size ≤ wr.heap.size := HM.out.size
    have HOWN := Lib.hid hown
    have hrow := hown.lt
    clear hown
    by_cases hlt : k < n
    · obtain ⟨b, o, y, rfl, hy, k0, k1, k2⟩ := HX.out.fileW hlt
      have HSN := Lib.hid (take_snoc' fs k y hy)
      obtain ⟨yn, ysf, yb, yA, yc⟩ := y
      simp only at k0 k1 k2
      have K0 := Lib.hid k0
      have K1 := Lib.hid k1
      have K2 := Lib.hid k2
      have g0 := HM.out.cell k0 (fun h => h)
      have g1 := HM.out.cell k1 (fun h => h)
      have g2 := HM.out.cell k2 (fun h => h)
      have i1 : (0 : Int) ≤ (k : Int) := by omega
      have i2 : (k : Int) < (n : Int) := by omega
      have hbl : b < wr.heap.size := World.block_lt_of_cell? wr _ g2
      clear hy k0 k1 k2
      go_wp2_with fail
      go_region_held3 (fun w' => w'.cell? ⟨b, o + k * 3, none⟩ = some (.string yn) ∧ w'.cell? ⟨b, o + k * 3 + 1, none⟩ = some (.int .i64 ysf) ∧ w'.cell? ⟨b, o + k * 3 + 2, none⟩ = some (.slice yA yb.length yc))
        (first | exact ⟨g0q, g1q, g2q⟩ | go_keep)
        (first
          | (refine step_appW _ rfl (.tmp 18) (.tmp 35) rfl w.heap.size (.slice Av k cv) k (fs.take k) rfl ((own_mod (S := Non) HOWN.out ((Mod.refl Non wr).drew) (fun _ _ h => h)).alloc _) _ 1 1 [⟨yn, ysf, yb, yA, yc⟩] rfl (one_fileW _ _ ⟨yn, ysf, yb, yA, yc⟩) (by omega) (by simp; omega) ?_
             intro qA qc qw qhc qhcm qown qg qat
             have MW := Lib.hid ((HM.out.drew.alloc (.cells #[.string yn, .int .i64 ysf, .slice yA yb.length yc] 58)).trans (Mod.of_grown (S := fun g => (Value.slice Av k cv).ownBlock = some g) qg fun _ h => h) fun g hg => .inr (hrow g hg).1)
             have g0q := MW.out.cell K0.out (fun h => h)
             have g1q := MW.out.cell K1.out (fun h => h)
             have g2q := MW.out.cell K2.out (fun h => h)
             have QOWN := Lib.hid qown
             clear qown qg qat))
      all_goals
        clear g0q g1q g2q
        go_wp2_with fail
        go_roundw
        case rel => exact ⟨k + 1, by omega, by go_num, by rw [HSN.out]; exact QOWN.out, MW.out⟩
        case measure => simp [intOf]; omega
    · obtain rfl : k = n := by omega
      have hr := Rd.of_ownW HOWN.out
      rw [List.take_of_length_le (by rw [HN.out]; omega)] at hr
      have hld := Lib.hid (load_any cap Av k cv fs wr (HL.out.mod0 HM.out) h0 h1 hr (fun x hx => (HB.out x hx).mod0 HM.out) HZ.out hc hn)
      rw [HR.out] at hld
      clear hr
      go_wp2_with fail
      refine hld.out.mono ?_
      intro e w2 h2
      cases R with
      | some D =>
        obtain ⟨d, F, rfl, hd, hm2, hF⟩ := h2
        have HD := Lib.hid hd
        have HM2 := Lib.hid hm2
        have HF := Lib.hid hF
        have hlr := Lib.hid (loadR_any cap A k c fs w2 h0 h1 ((HX.out.mod0 HM.out).mod0 hm2) (fun x hx => ((HB.out x hx).mod0 HM.out).mod0 hm2) HZ.out hc hn)
        rw [HR.out] at hlr
        clear hd hm2 hF hld
        go_wp2_with fail
        refine hlr.out.mono ?_
        rintro e w3 ⟨r, E, rfl, hr, hm3, hE⟩
        have HRK := Lib.hid hr
        have HM3 := Lib.hid hm3
        have HE := Lib.hid hE
        clear hr hm3 hE hlr
        go_wp2_with fail
        go_ret2
        have hFl : ∀ j, F j → j < w2.heap.size := by
          obtain ⟨_, _, _, _, _, _, _, _, hl⟩ := HD.out
          exact hl
        have hz2 := HM2.out.size
        exact ⟨d, F, r, E, rfl, HD.out.mod0 HM3.out, HRK.out, (HM.out.trans0 HM2.out).trans0 HM3.out, fun j hj => ⟨by have := HF.out j hj; omega, fun e => by have := HE.out j e; have := hFl j hj; omega⟩, fun j hj => by have := HE.out j hj; omega⟩
      | none =>
        obtain ⟨e1, rfl, he1, hm2⟩ := h2
        have HM2 := Lib.hid hm2
        have hlr := Lib.hid (loadR_any cap A k c fs w2 h0 h1 ((HX.out.mod0 HM.out).mod0 hm2) (fun x hx => ((HB.out x hx).mod0 HM.out).mod0 hm2) HZ.out hc hn)
        rw [HR.out] at hlr
        have hq1 : (e1 == 0) = false := by simp [he1]
        clear hm2 hld
        go_wp2_with fail
        refine hlr.out.mono ?_
        rintro e w3 ⟨e2, rfl, he2, hm3⟩
        have HM3 := Lib.hid hm3
        clear hm3 hlr
        go_wp2_with fail
        go_ret2
        exact ⟨rfl, (HM.out.trans0 HM2.out).trans0 HM3.out⟩

end Go.Proofs.YtdpjnpjmokncdaaGreatDoor

/- The reference's disk: Crash. -/
namespace Go.Proofs.YtdpjnpjmokncdaaGreatDoor
open Go.RowKit

/-- between two rounds of Crash. -/
structure CuM (w : World) (L : List Fl) (ys : List Fc) (k : Nat) (v : Value) (wr : World) : Prop where
  mod : Mod Non w wr
  eq : ys.map (·.f) = L.take k
  rd : ∀ y ∈ ys, Rd wr y.A y.f.bytes.length (by8 y.f.bytes) ∧ (y.f.bytes.length ≤ y.c ∧ y.c ≤ 9223372036854775807) ∧ ∀ b, blkOf y.A = some b → w.heap.size ≤ b ∧ b < wr.heap.size ∧ v.ownBlock ≠ some b
theorem crash1_n (D : Dk) (nm : ByteArray) (p : Option Int) : (crash1 D nm p).n = D.n ∧ (crash1 D nm p).done = D.done := by
  unfold crash1; split <;> exact ⟨rfl, rfl⟩
theorem crashL_n (picks : List Int) : ∀ (L : List ByteArray) (k : Nat) (D : Dk), (crashL picks k L D).n = D.n
  | [], _, _ => rfl
  | _ :: L, k, _ => by rw [crashL, crashL_n picks L (k + 1), (crash1_n _ _ _).1]
theorem crashL_done (picks : List Int) : ∀ (L : List ByteArray) (k : Nat) (D : Dk), (crashL picks k L D).done = D.done
  | [], _, _ => rfl
  | _ :: L, k, _ => by rw [crashL, crashL_done picks L (k + 1), (crash1_n _ _ _).2]
set_option maxRecDepth 100000 in
set_option maxHeartbeats 2000000 in
theorem crashR_any (E : Nat → Prop) (r : Nat) (D : Dk) (A : Option Addr) (n c : Nat) (picks : List Int) (w : World) (h : RkIs w E r D) (ok : DkOk D) (hp : Rd w A n (picks.map (Value.int .i64))) (hn : n ≤ 9223372036854775807) :
    Calls Tryz.prog 70 #[.pointer (some ⟨r, 0, none⟩), .slice A n c] w fun e w' => ∃ L, SortedOf D.files L ∧ RkPost E r (crashD D picks (L.map (·.name))) (.int .i64 0) w e w' := by
  obtain ⟨B, Ar, nr, cr, xs, h1, hE, hBE, hEl⟩ := h
  have hlen : xs.length = D.files.length := by have := h1.fs.perm.length_eq; simpa using this
  have hfl := files_len ok
  have hnr := h1.len
  have hnc := h1.nc
  have hcm := h1.cm
  have hn2 : nr ≤ 100000000000 := by omega
  have hpl : picks.length = n := by simpa using hp.1
  have c1w : w.cell? ⟨r, 1, none⟩ = some (.slice Ar nr cr) := h1.blk.cell 1
  have HU := Lib.hid (show ∀ y ∈ xs, y.f.bytes.length ≤ 1099511627776 ∧ y.f.safe ≤ y.f.bytes.length from fun y hy => by
    have hm := h1.fs.perm.mem_iff.1 (List.mem_map.2 ⟨y, hy, rfl⟩)
    exact ⟨(find_len ok ((find_iff ok.nd).2 ⟨hm, rfl⟩)).1, ok.sf _ hm⟩)
  have HN := Lib.hid hnr
  have HPL := Lib.hid hpl
  have HPK := Lib.hid hp
  have HR0 := Lib.hid h1
  have HND := Lib.hid ok.nd
  clear hlen hnr h1 hpl hp ok
  go_enter Tryz.func70, Tryz.ntmps70
  go_wp2_with fail
  clear c1w
  go_loopw [5, 6] (fun v i wr => ∃ (k : Nat) (ys : List Fc), k ≤ nr ∧ ys.length = k ∧ i = .int .i64 k ∧ wr.ownsRow w.heap.size 67 3 v k (flat3 ys) ∧ Hid (CuM w (crashS picks 0 (xs.map (·.f))) ys k v wr)) (fun _ i _ => nr - (intOf i).toNat)
  case atStart => exact ⟨0, [], Nat.zero_le _, rfl, rfl, World.ownsRow_nil _ _ _ _, ⟨Mod.refl _ _, by simp, by simp⟩⟩
  case round =>
    obtain ⟨k, ys, hk, hyk, rfl, hown, HP⟩ := hrel
    obtain ⟨Av, cv, rfl, hcv, hcv2⟩ := own_slice hown
    have hrw : w.heap.size ≤ wr.heap.size := HP.out.mod.size
    have HOWN := Lib.hid hown
    have HYK := Lib.hid hyk
    have hrow := hown.lt
    clear hown hyk
    by_cases hlt : k < nr
    · obtain ⟨b, o, y, rfl, hy, k0, k1, k2⟩ := HR0.out.row.file hlt
      have hym := List.mem_of_getElem? hy
      obtain ⟨hyl, hys⟩ := HU.out y hym
      obtain ⟨hk1, hk2⟩ := keepC_le hys picks[k]?
      have HYB := Lib.hid (((HR0.out.mod0 HP.out.mod).byt y hym).1)
      have hyc := ((HR0.out.mod0 HP.out.mod).byt y hym).2.1
      have hsn0 : (crashS picks 0 (xs.map (·.f)))[k]? = some (crashF y.f picks[k]?) := by rw [crashS_get, List.getElem?_map, hy]; simp
      have HSN := Lib.hid (take_snoc' _ k _ hsn0)
      obtain ⟨kp, hkp⟩ : ∃ kp, keepC y.f picks[k]? = kp := ⟨_, rfl⟩
      have HKP := Lib.hid hkp
      rw [hkp] at hk1 hk2
      obtain ⟨⟨yn, ysf, yb⟩, yA, yc⟩ := y
      simp only at k0 k1 k2 hyl hys hk1 hk2 hyc
      have K0 := Lib.hid k0
      have K1 := Lib.hid k1
      have K2 := Lib.hid k2
      have KC := Lib.hid (HR0.out.blk.cell 1)
      have g0 := HP.out.mod.cell k0 (fun h => h)
      have g1 := HP.out.mod.cell k1 (fun h => h)
      have g2 := HP.out.mod.cell k2 (fun h => h)
      have i1 : (0 : Int) ≤ (k : Int) := by omega
      have i2 : (k : Int) < (nr : Int) := by omega
      have c1x : wr.cell? ⟨r, 1, none⟩ = some (.slice (some ⟨b, o, none⟩) nr cr) := (HR0.out.mod0 HP.out.mod).blk.cell 1
      have hrl : r < wr.heap.size := (HR0.out.mod0 HP.out.mod).blk.lt
      have hbl : b < wr.heap.size := World.block_lt_of_cell? wr _ g2
      clear k0 k1 k2 hy hym hsn0 hkp
      by_cases hpk : k < n
      · obtain ⟨pb, po, rfl, pu, hpu, hpc⟩ := (HPK.out.mod0 HP.out.mod).at_ hpk
        rw [List.getElem?_map] at hpu
        cases hpx : picks[k]? with
        | none => rw [hpx] at hpu; cases hpu
        | some v =>
          rw [hpx] at hpu
          simp only [Option.map_some, Option.some.injEq] at hpu
          subst hpu
          have HKV : Hid (kp = ysf + (v % 18446744073709551616).toNat % (yb.length - ysf + 1)) := by show _ = _; rw [← HKP.out, hpx]; rfl
          have hpbl : pb < wr.heap.size := World.block_lt_of_cell? wr _ hpc
          have j1 : (k : Int) < (n : Int) := by omega
          clear hpx
          go_wp2_with fail
          go_quiet (fail)
          rw [keep_num v ysf yb.length hys hyl, ← HKV.out]
          have hM0 : Mod Non wr ((wr.alloc (.cells #[.string yn, .int .i64 (ysf : Int), .slice yA yb.length yc] 67)).drewN nq) := ((Mod.refl Non wr).alloc _).drewN nq
          have hBX : Blk ((wr.alloc (.cells #[.string yn, .int .i64 (ysf : Int), .slice yA yb.length yc] 67)).drewN nq) wr.heap.size 67 #[.string yn, .int .i64 (ysf : Int), .slice yA yb.length yc] := (Blk.new wr _ _).drewN nq
          generalize (wr.alloc (.cells #[.string yn, .int .i64 (ysf : Int), .slice yA yb.length yc] 67)).drewN nq = W1 at *
          have HM0 := Lib.hid hM0
          have HBX := Lib.hid hBX
          have b0 : W1.cell? ⟨wr.heap.size, 0, none⟩ = some (.string yn) := hBX.cell 0
          have b2 : W1.cell? ⟨wr.heap.size, 2, none⟩ = some (.slice yA yb.length yc) := hBX.cell 2
          have hbxl : wr.heap.size < W1.heap.size := hBX.lt
          have HTK : Hid (Rd W1 yA kp (by8 (yb.take kp))) := by
            show Rd _ _ _ _
            rw [by8_take]
            exact (HYB.out.mod0 hM0).take hk2
          have hkc : (kp : Int) ≤ (yc : Int) := by omega
          have hk0 : (0 : Int) ≤ (kp : Int) := by omega
          clear hM0 hBX g0 g1 g2 c1x
          go_wp2_with fail
          go_region_held3 (fun w' => w'.cell? ⟨wr.heap.size, 0, none⟩ = some (.string yn) ∧ w'.cell? ⟨wr.heap.size, 2, none⟩ = some (.slice yA yb.length yc))
            (first | exact ⟨b0q, b2q⟩ | go_keep)
            (first
              | (refine step_app8 bt _ rfl (.tmp 53) (.tmp 57) rfl W1.heap.size (.slice (some ⟨W1.heap.size, 0, none⟩) 0 0) 0 [] rfl (own_empty W1.drew 5 1) yA kp yc (yb.take kp) rfl ((HTK.out.drew).alloc _) kp (by omega) (yb.take kp) rfl (by omega) (by simp) ?_
                 intro pA pc pw phc pown pg pat
                 have MP := Lib.hid ((((Mod.refl Non W1).drew).alloc (.cells #[] 5)).trans (Mod.of_grown (S := fun g => (Value.slice (some ⟨W1.heap.size, 0, none⟩) 0 0).ownBlock = some g) pg fun _ h => h) fun g hg => .inr (by simp [Value.ownBlock] at hg; omega))
                 have b0p := MP.out.cell b0 (fun h => h)
                 have b2p := MP.out.cell b2 (fun h => h)
                 have hpz := MP.out.size
                 have hpcc : kp ≤ pc ∧ pc ≤ 9223372036854775807 := by
                   obtain ⟨A9, c9, e9, h8, h9⟩ := own_slice pown
                   injection e9 with _ _ e9
                   subst e9
                   exact ⟨h8, h9⟩
                 have POWN := Lib.hid pown
                 clear pown pg pat)
              | (refine step_appF _ rfl (.tmp 49) (.tmp 60) rfl w.heap.size (.slice Av k cv) k ys rfl ((own_mod (S := Non) HOWN.out (HM0.out.trans0 MP.out) (fun _ _ h => h)).alloc _) _ 1 1 [⟨⟨yn, kp, yb.take kp⟩, pA, pc⟩] rfl (by have := one_file pw 67 ⟨⟨yn, kp, yb.take kp⟩, pA, pc⟩; simp only [List.length_take, Nat.min_eq_left hk2] at this; exact this) (by omega) (by simp; omega) ?_
                 intro qA qc qw qhc qhcm qown qg qat
                 have MG := Lib.hid (Mod.of_grown (S := fun g => (Value.slice Av k cv).ownBlock = some g) qg fun _ h => h)
                 have MW := Lib.hid ((((HP.out.mod.trans0 HM0.out).trans0 MP.out).alloc (.cells #[.string yn, .int .i64 (kp : Int), .slice pA kp pc] 67)).trans MG.out fun g hg => .inr (hrow g hg).1)
                 have hbq := (((HBX.out.mod MP.out fun h => h).alloc (.cells #[.string yn, .int .i64 (kp : Int), .slice pA kp pc] 67)).mod MG.out fun h => by have := (hrow _ h).2; omega)
                 have b0q := hbq.cell 0
                 have b2q := hbq.cell 2
                 have QOWN := Lib.hid qown
                 have QAT := Lib.hid qat
                 clear qown qg qat hbq))
          all_goals
            clear b0q b2q b0p b2p
            go_wp2_with fail
            have hpo := own_base POWN.out
            have hplt := POWN.out.lt
            have hsz2 : (pw.alloc (.cells #[.string yn, .int .i64 (kp : Int), .slice pA kp pc] 67)).heap.size = pw.heap.size + 1 := by simp
            have hm0s := HM0.out.size
            have hnew : ∀ g, blkOf qA = some g → (Value.slice Av k cv).ownBlock = some g ∨ pw.heap.size ≤ g := fun g hg => by
              rcases QAT.out with h | h
              · exact .inl (by rw [← h]; exact hg)
              · rw [h] at hg; cases hg; exact .inr (by omega)
            go_roundw
            case rel =>
              refine ⟨k + 1, ys ++ [⟨⟨yn, kp, yb.take kp⟩, pA, pc⟩], by omega, by simp [HYK.out], by go_num, QOWN.out, ⟨MW.out, ?_, ?_⟩⟩
              · rw [HSN.out, List.map_append, HP.out.eq]
                show _ = _ ++ [(⟨yn, _, _⟩ : Fl)]
                rw [HKP.out]
                rfl
              · intro z hz
                rcases List.mem_append.1 hz with hz | hz
                · obtain ⟨a1, a3, a2⟩ := HP.out.rd z hz
                  refine ⟨(((a1.mod0 HM0.out).mod0 MP.out).alloc _).mod MG.out fun _ g hg e => (a2 g hg).2.2 e, a3, fun g hg => ⟨(a2 g hg).1, by have := (a2 g hg).2.1; have := MG.out.size; omega, fun e => ?_⟩⟩
                  rcases hnew g (by rw [slice_blk] at e; exact e) with h | h
                  · exact (a2 g hg).2.2 h
                  · have := (a2 g hg).2.1; omega
                · simp only [List.mem_singleton] at hz
                  subst hz
                  have hrd : Rd qw pA kp (by8 (yb.take kp)) := ((Rd.of_own POWN.out).alloc _).mod MG.out fun _ g hg e => by have := hpo g hg; have := (hrow g e).2; omega
                  refine ⟨by simpa [Nat.min_eq_left hk2] using hrd, by simpa [Nat.min_eq_left hk2] using hpcc, fun g hg => ⟨by have := hpo g hg; omega, by have := (hplt g (by rw [slice_blk]; exact hg)).2; have := MG.out.size; omega, fun e => ?_⟩⟩
                  rcases hnew g (by rw [slice_blk] at e; exact e) with h | h
                  · have := hpo g hg; have := (hrow g h).2; omega
                  · have := (hplt g (by rw [slice_blk]; exact hg)).2; omega
            case measure => simp [intOf]; omega
      · have hpx : picks[k]? = none := List.getElem?_eq_none (by rw [HPL.out]; omega)
        have HKV : Hid (kp = ysf) := by show _ = _; rw [← HKP.out, hpx]; rfl
        clear hpx
        obtain rfl : kp = ysf := HKV.out
        clear HKV
        go_wp2_with fail
        go_quiet (fail)
        have hM0 : Mod Non wr ((wr.alloc (.cells #[.string yn, .int .i64 (kp : Int), .slice yA yb.length yc] 67)).drewN nq) := ((Mod.refl Non wr).alloc _).drewN nq
        have hBX : Blk ((wr.alloc (.cells #[.string yn, .int .i64 (kp : Int), .slice yA yb.length yc] 67)).drewN nq) wr.heap.size 67 #[.string yn, .int .i64 (kp : Int), .slice yA yb.length yc] := (Blk.new wr _ _).drewN nq
        generalize (wr.alloc (.cells #[.string yn, .int .i64 (kp : Int), .slice yA yb.length yc] 67)).drewN nq = W1 at *
        have HM0 := Lib.hid hM0
        have HBX := Lib.hid hBX
        have b0 : W1.cell? ⟨wr.heap.size, 0, none⟩ = some (.string yn) := hBX.cell 0
        have b2 : W1.cell? ⟨wr.heap.size, 2, none⟩ = some (.slice yA yb.length yc) := hBX.cell 2
        have hbxl : wr.heap.size < W1.heap.size := hBX.lt
        have HTK : Hid (Rd W1 yA kp (by8 (yb.take kp))) := by
          show Rd _ _ _ _
          rw [by8_take]
          exact (HYB.out.mod0 hM0).take hk2
        have hkc : (kp : Int) ≤ (yc : Int) := by omega
        have hk0 : (0 : Int) ≤ (kp : Int) := by omega
        clear hM0 hBX g0 g1 g2 c1x
        go_wp2_with fail
        go_region_held3 (fun w' => w'.cell? ⟨wr.heap.size, 0, none⟩ = some (.string yn) ∧ w'.cell? ⟨wr.heap.size, 2, none⟩ = some (.slice yA yb.length yc))
          (first | exact ⟨b0q, b2q⟩ | go_keep)
          (first
            | (refine step_app8 bt _ rfl (.tmp 53) (.tmp 57) rfl W1.heap.size (.slice (some ⟨W1.heap.size, 0, none⟩) 0 0) 0 [] rfl (own_empty W1.drew 5 1) yA kp yc (yb.take kp) rfl ((HTK.out.drew).alloc _) kp (by omega) (yb.take kp) rfl (by omega) (by simp) ?_
               intro pA pc pw phc pown pg pat
               have MP := Lib.hid ((((Mod.refl Non W1).drew).alloc (.cells #[] 5)).trans (Mod.of_grown (S := fun g => (Value.slice (some ⟨W1.heap.size, 0, none⟩) 0 0).ownBlock = some g) pg fun _ h => h) fun g hg => .inr (by simp [Value.ownBlock] at hg; omega))
               have b0p := MP.out.cell b0 (fun h => h)
               have b2p := MP.out.cell b2 (fun h => h)
               have hpz := MP.out.size
               have hpcc : kp ≤ pc ∧ pc ≤ 9223372036854775807 := by
                 obtain ⟨A9, c9, e9, h8, h9⟩ := own_slice pown
                 injection e9 with _ _ e9
                 subst e9
                 exact ⟨h8, h9⟩
               have POWN := Lib.hid pown
               clear pown pg pat)
            | (refine step_appF _ rfl (.tmp 49) (.tmp 60) rfl w.heap.size (.slice Av k cv) k ys rfl ((own_mod (S := Non) HOWN.out (HM0.out.trans0 MP.out) (fun _ _ h => h)).alloc _) _ 1 1 [⟨⟨yn, kp, yb.take kp⟩, pA, pc⟩] rfl (by have := one_file pw 67 ⟨⟨yn, kp, yb.take kp⟩, pA, pc⟩; simp only [List.length_take, Nat.min_eq_left hk2] at this; exact this) (by omega) (by simp; omega) ?_
               intro qA qc qw qhc qhcm qown qg qat
               have MG := Lib.hid (Mod.of_grown (S := fun g => (Value.slice Av k cv).ownBlock = some g) qg fun _ h => h)
               have MW := Lib.hid ((((HP.out.mod.trans0 HM0.out).trans0 MP.out).alloc (.cells #[.string yn, .int .i64 (kp : Int), .slice pA kp pc] 67)).trans MG.out fun g hg => .inr (hrow g hg).1)
               have hbq := (((HBX.out.mod MP.out fun h => h).alloc (.cells #[.string yn, .int .i64 (kp : Int), .slice pA kp pc] 67)).mod MG.out fun h => by have := (hrow _ h).2; omega)
               have b0q := hbq.cell 0
               have b2q := hbq.cell 2
               have QOWN := Lib.hid qown
               have QAT := Lib.hid qat
               clear qown qg qat hbq))
        all_goals
          clear b0q b2q b0p b2p
          go_wp2_with fail
          have hpo := own_base POWN.out
          have hplt := POWN.out.lt
          have hsz2 : (pw.alloc (.cells #[.string yn, .int .i64 (kp : Int), .slice pA kp pc] 67)).heap.size = pw.heap.size + 1 := by simp
          have hm0s := HM0.out.size
          have hnew : ∀ g, blkOf qA = some g → (Value.slice Av k cv).ownBlock = some g ∨ pw.heap.size ≤ g := fun g hg => by
            rcases QAT.out with h | h
            · exact .inl (by rw [← h]; exact hg)
            · rw [h] at hg; cases hg; exact .inr (by omega)
          go_roundw
          case rel =>
            refine ⟨k + 1, ys ++ [⟨⟨yn, kp, yb.take kp⟩, pA, pc⟩], by omega, by simp [HYK.out], by go_num, QOWN.out, ⟨MW.out, ?_, ?_⟩⟩
            · rw [HSN.out, List.map_append, HP.out.eq]
              show _ = _ ++ [(⟨yn, _, _⟩ : Fl)]
              rw [HKP.out]
              rfl
            · intro z hz
              rcases List.mem_append.1 hz with hz | hz
              · obtain ⟨a1, a3, a2⟩ := HP.out.rd z hz
                refine ⟨(((a1.mod0 HM0.out).mod0 MP.out).alloc _).mod MG.out fun _ g hg e => (a2 g hg).2.2 e, a3, fun g hg => ⟨(a2 g hg).1, by have := (a2 g hg).2.1; have := MG.out.size; omega, fun e => ?_⟩⟩
                rcases hnew g (by rw [slice_blk] at e; exact e) with h | h
                · exact (a2 g hg).2.2 h
                · have := (a2 g hg).2.1; omega
              · simp only [List.mem_singleton] at hz
                subst hz
                have hrd : Rd qw pA kp (by8 (yb.take kp)) := ((Rd.of_own POWN.out).alloc _).mod MG.out fun _ g hg e => by have := hpo g hg; have := (hrow g e).2; omega
                refine ⟨by simpa [Nat.min_eq_left hk2] using hrd, by simpa [Nat.min_eq_left hk2] using hpcc, fun g hg => ⟨by have := hpo g hg; omega, by have := (hplt g (by rw [slice_blk]; exact hg)).2; have := MG.out.size; omega, fun e => ?_⟩⟩
                rcases hnew g (by rw [slice_blk] at e; exact e) with h | h
                · have := hpo g hg; have := (hrow g h).2; omega
                · have := (hplt g (by rw [slice_blk]; exact hg)).2; omega
          case measure => simp [intOf]; omega
    · obtain rfl : k = nr := by omega
      have hblk := (HR0.out.mod0 HP.out.mod).blk
      have c1x : wr.cell? ⟨r, 1, none⟩ = some (.slice Ar k cr) := hblk.cell 1
      have c3x : wr.cell? ⟨r, 3, none⟩ = some (.int .i64 D.left) := hblk.cell 3
      have c4x : wr.cell? ⟨r, 4, none⟩ = some (.bool D.off) := hblk.cell 4
      have f1x := hblk.frozen 1
      have f3x := hblk.frozen 3
      have f4x := hblk.frozen 4
      have HBLK := Lib.hid hblk
      clear hblk
      go_wp2_with fail
      go_ret
      have hset : Mod (fun k => k = r) wr (((wr.setCell ⟨r, 1, none⟩ (.slice Av k cv)).setCell ⟨r, 4, none⟩ (.bool false)).setCell ⟨r, 3, none⟩ (.int .i64 (-1))) := (((Mod.refl (fun k => k = r) wr).set1 1 _).set1 4 _).set1 3 _
      have hrl : r < w.heap.size := hEl r hE
      have hbase := own_base HOWN.out
      have hmx : maxLen = 9223372036854775807 := rfl
      have heq := HP.out.eq
      rw [List.take_of_length_le (by have := congrArg List.length (crashS_names picks 0 (xs.map (·.f))); simp [HN.out] at this; omega)] at heq
      have hsz : (((wr.setCell ⟨r, 1, none⟩ (.slice Av k cv)).setCell ⟨r, 4, none⟩ (.bool false)).setCell ⟨r, 3, none⟩ (.int .i64 (-1))).heap.size = wr.heap.size := by simp [World.setCell]
      refine ⟨xs.map (·.f), HR0.out.fs, rfl, fun q => E q ∨ (w.heap.size ≤ q ∧ q < wr.heap.size), ⟨fun q => w.heap.size ≤ q ∧ q < wr.heap.size, Av, k, cv, ys, ⟨?_, ?_, hcv, by omega, ?_, ?_, ?_, fun h => by omega⟩, .inl hE, fun q hq => .inr hq, fun q hq => ?_⟩, HP.out.mod.non.trans hset fun q hq => .inl hq, fun q hq => hq.imp id fun h => h.1⟩
      · have h3 := ((HBLK.out.set_ 1 (.slice Av k cv)).set_ 4 (.bool false)).set_ 3 (.int .i64 (-1))
        have e1 : (crashD D picks ((xs.map (·.f)).map (·.name))).n = D.n := crashL_n picks _ 0 D
        have e2 : (crashD D picks ((xs.map (·.f)).map (·.name))).done = D.done := crashL_done picks _ 0 D
        rw [e1, e2]
        exact h3
      · exact (Rd.of_own3 HOWN.out).mod hset fun _ b hb e => by have := hbase b hb; omega
      · rw [heq]
        exact HR0.out.fs.crash HND.out picks
      · intro y hy
        obtain ⟨a1, a3, a2⟩ := HP.out.rd y hy
        exact ⟨a1.mod hset fun _ b hb e => by have := (a2 b hb).1; omega, a3.1, a3.2, fun b hb => ⟨(a2 b hb).1, (a2 b hb).2.1⟩⟩
      · intro b hb
        exact ⟨hbase b hb, (HOWN.out.lt b (by rw [slice_blk]; exact hb)).2⟩
      · rw [hsz]
        rcases hq with hq | hq
        · have := hEl q hq; have := HP.out.mod.size; omega
        · exact hq.2

end Go.Proofs.YtdpjnpjmokncdaaGreatDoor

/- (*Disk).Rename, the walk: a file that is found. -/
namespace Go.Proofs.YtdpjnpjmokncdaaGreatDoor
open Go.RowKit

set_option maxRecDepth 100000 in
set_option maxHeartbeats 4000000 in
theorem rename_has (F : Nat → Prop) (d : Nat) (D : Dk) (a b : ByteArray) (f : Fl) (w : World) (h : DiskIs w F d D) (ok : DkOk D)
    (hna : named a = true) (hnb : named b = true) (hoff : D.off = false) (hf : findF D.files a = some f) (more E : Int) (D' : Dk) (hmore : moreR D a b = more) (hE : spendE D more = E)
    (hD : (if E = 0 then { spendD D more with files := putF (delF D.files a) { f with name := b } } else spendD D more) = D')
    (gl : Nat) (is ne : Bool) (hgl : gl ≤ 1099511627776)
    (hl2 : ∀ G m kvs, DkAt w G d m kvs D → ∃ (sn : ByteArray) (ss : Int) (Ag : Option Addr) (cg : Nat), gotten (lookKV kvs b) = .tuple #[.agg #[.string sn, .int .i64 ss, .slice Ag gl cg], .bool is])
    (hne1 : (a.toList == b.toList) = !ne) (hmv : more = (b.size : Int) - a.size - (if (is && ne) = true then 16 + (b.size : Int) + gl else 0)) :
    Calls Tryz.prog 41 #[.pointer (some ⟨d, 0, none⟩), .string a, .string b] w (DkPost F d D' (.int .i64 E) w) := by
  have HD := Lib.hid hD
  have HE := Lib.hid hE
  have hsa := named_size hna
  have hsb := named_size hnb
  have hlow : -D.used ≤ more := by
    have h1 := usedF_rename ok (b := b) hf
    have h2 := usedF_nonneg (putF (delF D.files a) { f with name := b })
    omega
  clear hD hE
  obtain ⟨G, m, kvs, hA, hFd, hFm, hGF, hFp, hFl⟩ := h
  obtain ⟨Af, cf, hg, hrf, hcf1, hcf2, hfG, hfn⟩ := found hA hf
  have hflen : f.bytes.length ≤ 1099511627776 := (find_len ok hf).1
  have HNA := Lib.hid hna
  have HNB := Lib.hid hnb
  have HV := Lib.hid hg
  obtain ⟨sn, ss, Ag, cg, hl3⟩ := hl2 G m kvs hA
  have HV2 := Lib.hid hl3
  have HA := Lib.hid hA
  have c2 : w.cell? ⟨d, 2, none⟩ = some (.map (some m)) := hA.blk.cell 2
  have hdl := hA.blk.lt
  have hml := hA.map.lt
  have HR : Hid (rightE true D = 0) := by show rightE true D = 0; simp [rightE, hoff]
  obtain ⟨fs, hfs⟩ : ∃ fs, f.safe = fs := ⟨_, rfl⟩
  obtain ⟨fb, hfb⟩ : ∃ fb, f.bytes = fb := ⟨_, rfl⟩
  have HFS := Lib.hid hfs
  have HFB := Lib.hid hfb
  rw [hfs] at HV
  rw [hfb] at HV hrf hflen hcf1
  clear hna hnb hoff hfn hg hA hf hl2 hl3 hmore hfs hfb
  obtain ⟨fl, hfl⟩ : ∃ fl, fb.length = fl := ⟨_, rfl⟩
  have HFL := Lib.hid hfl
  rw [hfl] at hflen hcf1 HV
  clear hfl
  cases is
  all_goals
    cases ne
    all_goals
      simp only [Bool.not_true, Bool.not_false] at hne1
      simp only [Bool.and_true, Bool.and_false, Bool.false_eq_true, if_false, if_true, Int.sub_zero] at hmv
      go_enter Tryz.func41, Tryz.ntmps41
      go_wp2_with (first
        | (go_at_call 52; (with_reducible refine (named_any a _ (by omega)).mono ?_); rintro e w' ⟨rfl, rfl⟩; rw [HNA.out])
        | (go_at_call 52; (with_reducible refine (named_any b _ (by omega)).mono ?_); rintro e w' ⟨rfl, rfl⟩; rw [HNB.out])
        | (go_at_call 51; refine (right_any true G d m kvs D _ HA.out).mono ?_; rintro e w' ⟨rfl, rfl⟩; rw [HR.out])
        | (go_at_call 53; refine (cost_any b gl _ (by omega) (by omega)).mono ?_; rintro e w' ⟨rfl, rfl⟩)
        | (at_lookup; refine wpList_look _ rfl (.tmp 29) (.tmp 30) true rfl strKey HA.out.map Tryz.underlying77 Tryz.underlying9 (zeroFile _) a rfl rfl _ HV.out ?_)
        | (at_lookup; refine wpList_look _ rfl (.tmp 45) (.tmp 46) true rfl strKey (HA.out.map.mod0' ((Mod.refl Non w).alloc _)) Tryz.underlying77 Tryz.underlying9 (zeroFile _) b rfl rfl _ HV2.out ?_)
        | fail)
      rw [← hmv]
      refine (spend_any G d m kvs D more _ (HA.out.mod0 (((Mod.refl Non w).alloc _).alloc _)) ok hlow).mono ?_
      rintro e w1 ⟨rfl, hA1, hm1⟩
      rw [HE.out]
      have HA1 := Lib.hid hA1
      have HM1 := Lib.hid hm1
      have hbox : Blk w1 w.heap.size 58 #[.string a, .int .i64 (fs : Int), .slice Af fl cf] := ((Blk.new w _ _).alloc _).mod hm1 (by omega)
      have HBX := Lib.hid hbox
      have hsz : w.heap.size < w1.heap.size := hbox.lt
      have c21 : w1.cell? ⟨d, 2, none⟩ = some (.map (some m)) := hA1.blk.cell 2
      have hmw1 : Hid (Mod F w w1) := (((Mod.refl F w).alloc _).alloc _).trans HM1.out (fun k hk => by subst hk; exact .inl hFd)
      clear hA1 hm1 c2 hbox
      by_cases hE0 : E = 0
      · have HD' : Hid ({ spendD D more with files := putF (delF D.files a) { f with name := b } } = D') := by
          have := HD.out
          rwa [if_pos hE0] at this
        subst hE0
        clear HD
        go_wp2_with (first
          | (at_builtin; fail)
          | (refine wpList_del _ rfl (.tmp 71) (.tmp 72) rfl strKey HA1.out.map Tryz.underlying77 Tryz.underlying9 a rfl rfl ?_
             intro w3 hp3 hm3
             have hnm3 : w.heap.size ≠ m := by omega
             have hbx3 := HBX.out.mod hm3 hnm3
             have f03 := hbx3.frozen 0
             have b03 : w3.cell? ⟨w.heap.size, 0, none⟩ = some (.string a) := hbx3.cell 0
             have HB3 := Lib.hid hbx3
             have HA3 := Lib.hid (HA1.out.dropped hp3 hm3)
             have HM3 := Lib.hid hm3
             clear hp3 hm3 hbx3)
          | fail)
        have hm4 : Mod (fun k => k = w.heap.size) w3 (w3.setCell ⟨w.heap.size, 0, none⟩ (.string b)) := (Mod.refl _ _).set1 0 _
        have HM4 := Lib.hid hm4
        have hA4 := HA3.out.mod hm4 (by omega) (by omega) (fun k hk => by have := hFl k (hGF k hk); omega) (by have := HA.out.lay.lt; omega)
        have HA4 := Lib.hid hA4
        have hbx4 := HB3.out.set_ 0 (.string b)
        have c24 : (w3.setCell ⟨w.heap.size, 0, none⟩ (.string b)).cell? ⟨d, 2, none⟩ = some (.map (some m)) := hA4.blk.cell 2
        have b04 : (w3.setCell ⟨w.heap.size, 0, none⟩ (.string b)).cell? ⟨w.heap.size, 0, none⟩ = some (.string b) := hbx4.cell 0
        have b14 : (w3.setCell ⟨w.heap.size, 0, none⟩ (.string b)).cell? ⟨w.heap.size, 1, none⟩ = some (.int .i64 (fs : Int)) := hbx4.cell 1
        have b24 : (w3.setCell ⟨w.heap.size, 0, none⟩ (.string b)).cell? ⟨w.heap.size, 2, none⟩ = some (.slice Af fl cf) := hbx4.cell 2
        have hs4 : w3.heap.size ≤ (w3.setCell ⟨w.heap.size, 0, none⟩ (.string b)).heap.size := by simp
        clear hm4 hA4 hbx4 f03 b03
        generalize w3.setCell ⟨w.heap.size, 0, none⟩ (.string b) = w4 at *
        have tok : True := trivial
        go_region_held3 (fun w' => w'.cell? ⟨d, 2, none⟩ = some (.map (some m)) ∧ w'.cell? ⟨w.heap.size, 0, none⟩ = some (.string b) ∧ w'.cell? ⟨w.heap.size, 1, none⟩ = some (.int .i64 (fs : Int)) ∧ w'.cell? ⟨w.heap.size, 2, none⟩ = some (.slice Af fl cf))
          (first | go_keep)
          (first
            | (have _t := tok
               obtain ⟨w5, hrun, hp5, hm5⟩ := MapAt.run_put (P := Tryz.prog) strKey (HA4.out.map.mod0' ((Mod.refl Non w4).drew)) Tryz.underlying77 Tryz.underlying9 b (.agg #[.string b, .int .i64 (fs : Int), .slice Af fl cf])
               rw [hrun]
               clear hrun
               have c25 := hm5.cell c24 (p := ⟨d, 2, none⟩) (fun e => HA1.out.dm e)
               have b05 := hm5.cell b04 (p := ⟨w.heap.size, 0, none⟩) (fun e => by simp only at e; omega)
               have b15 := hm5.cell b14 (p := ⟨w.heap.size, 1, none⟩) (fun e => by simp only at e; omega)
               have b25 := hm5.cell b24 (p := ⟨w.heap.size, 2, none⟩) (fun e => by simp only at e; omega)
               simp only [Result.andThen, Oper.upon]))
        go_wp2_with fail
        go_ret
        have hm5' : Mod (fun i => i = m) w4 w5 := ((Mod.refl _ _).drew).trans hm5 fun _ h => .inl h
        have hfl : FlAt w5 G (b, .agg #[.string b, .int .i64 (fs : Int), .slice Af fl cf]) { f with name := b } := by
          refine ⟨rfl, Af, cf, ?_, ?_, ?_, hcf2, hfG⟩
          · simp only [HFS.out, HFB.out, HFL.out]
          · simp only [HFB.out]
            have r1 : Rd w1 Af fb.length (by8 fb) := ((hrf.alloc _).alloc _).mod HM1.out fun _ b hb e => (HA.out.gd b (hfG b hb)).1 e
            have r3 : Rd w3 Af fb.length (by8 fb) := r1.mod HM3.out fun _ b hb e => (HA.out.gd b (hfG b hb)).2 e
            have r4 := r3.mod HM4.out fun _ b hb e => by have := hFl b (hGF b (hfG b hb)); omega
            exact r4.mod hm5' fun _ b hb e => (HA.out.gd b (hfG b hb)).2 e
          · simp only [HFB.out, HFL.out]; exact hcf1
        have hA5 := HA4.out.stored (f := { f with name := b }) (B := w1.heap.size) hp5 hm5' (fun k hk => hk) hfl (fun k hk => .inl hk) HA1.out.blk.lt HA1.out.map.lt
        simp only [spendD_files] at hA5
        refine ⟨rfl, dk_fin (by rw [← HD'.out]; exact hA5) hFd hFm hFp hFl (fun k hk => .inl (hGF k hk)) ?_ HA.out.lay.lt⟩
        exact ((hmw1.out.trans HM3.out fun k hk => by subst hk; exact .inl hFm).trans HM4.out (fun k hk => by subst hk; exact .inr (Nat.le_refl _))).trans hm5' (fun k hk => by subst hk; exact .inl hFm)
      · have HD' : Hid (spendD D more = D') := by
          have := HD.out
          rwa [if_neg hE0] at this
        have hEb : (E == 0) = false := by simp [hE0]
        clear HD hE0
        go_wp2_with fail
        go_ret
        exact ⟨rfl, dk_fin (by rw [← HD'.out]; exact HA1.out) hFd hFm hFp hFl (fun k hk => .inl (hGF k hk)) hmw1.out HA.out.lay.lt⟩

/-- (*Disk).Rename. -/
theorem rename_any (F : Nat → Prop) (d : Nat) (D : Dk) (a b : ByteArray) (w : World) (h : DiskIs w F d D) (ok : DkOk D) (hsa : a.size ≤ 9223372036854775807) (hsb : b.size ≤ 9223372036854775807) :
    Calls Tryz.prog 41 #[.pointer (some ⟨d, 0, none⟩), .string a, .string b] w (DkPost F d (renameD D a b) (.int .i64 (renameE D a b)) w) := by
  by_cases hna : named a = true
  · by_cases hnb : named b = true
    · by_cases hoff : D.off = true
      · rw [show renameE D a b = 5 by unfold renameE; rw [if_pos ⟨hna, hnb⟩, if_pos hoff], show renameD D a b = D by unfold renameD; rw [if_neg (by rw [hoff]; simp)]]
        exact rename_bad F d D a b w h hsa hsb 5 (.inr (.inr (.inl ⟨hna, hnb, hoff, rfl⟩)))
      · have hoff' : D.off = false := by simpa using hoff
        cases hf : findF D.files a with
        | none =>
          rw [show renameE D a b = 3 by unfold renameE; rw [if_pos ⟨hna, hnb⟩, if_neg hoff, hf], show renameD D a b = D by unfold renameD; rw [if_pos ⟨hna, hnb, hoff'⟩, hf]]
          exact rename_bad F d D a b w h hsa hsb 3 (.inr (.inr (.inr ⟨hna, hnb, hoff', hf, rfl⟩)))
        | some f =>
          have hE : renameE D a b = spendE D (moreR D a b) := by unfold renameE; rw [if_pos ⟨hna, hnb⟩, if_neg hoff, hf]
          have hD : renameD D a b = (if spendE D (moreR D a b) = 0 then { spendD D (moreR D a b) with files := putF (delF D.files a) { f with name := b } } else spendD D (moreR D a b)) := by
            unfold renameD
            rw [if_pos ⟨hna, hnb, hoff'⟩, hf]
          rw [hE, hD]
          have hbq : (a.toList == b.toList) = !decide (a ≠ b) := by
            by_cases e : a = b
            · subst e; simp
            · rw [decide_eq_true e, beq_eq_false_iff_ne.2]
              · rfl
              · intro e2
                rw [ByteArray.toList_eq, ByteArray.toList_eq] at e2
                exact e (keyF_inj e2)
          cases hg : findF D.files b with
          | none =>
            refine rename_has F d D a b f w h ok hna hnb hoff' hf _ _ _ rfl rfl rfl 0 false (decide (a ≠ b)) (by omega) (fun G m kvs hA => ⟨_, _, _, _, lost hA hg⟩) hbq ?_
            unfold moreR
            rw [hg]
            simp
          | some g =>
            have hgl := (find_len ok hg).1
            have hgn := find_name hg
            refine rename_has F d D a b f w h ok hna hnb hoff' hf _ _ _ rfl rfl rfl g.bytes.length true (decide (a ≠ b)) hgl (fun G m kvs hA => ?_) hbq ?_
            · obtain ⟨Ag, cg, hv, _⟩ := found hA hg
              exact ⟨_, _, _, _, hv⟩
            · unfold moreR
              rw [hg]
              by_cases e : a = b
              · simp [e]
              · simp only [Bool.true_and, decide_eq_true_eq]
                rw [if_neg e, if_pos e]
                unfold costF
                rw [hgn]
    · rw [show renameE D a b = 1 by unfold renameE; rw [if_neg (fun h => hnb h.2)], show renameD D a b = D by unfold renameD; rw [if_neg (fun h => hnb h.2.1)]]
      exact rename_bad F d D a b w h hsa hsb 1 (.inr (.inl ⟨hna, by simpa using hnb, rfl⟩))
  · rw [show renameE D a b = 1 by unfold renameE; rw [if_neg (fun h => hna h.1)], show renameD D a b = D by unfold renameD; rw [if_neg (fun h => hna h.1)]]
    exact rename_bad F d D a b w h hsa hsb 1 (.inl ⟨by simpa using hna, rfl⟩)

end Go.Proofs.YtdpjnpjmokncdaaGreatDoor

/- law11.files. -/
namespace Go.Proofs.YtdpjnpjmokncdaaGreatDoor
open Go.RowKit

set_option maxRecDepth 100000 in
set_option maxHeartbeats 1000000 in
theorem filesL_any (A : Option Addr) (n c : Nat) (xs : List Fc) (w : World) (hx : Rd w A (n * 3) (flat3 xs)) (hn : n ≤ 100000000000) :
    Calls Tryz.prog 29 #[.slice A n c] w fun e w' => ∃ A' c', e = .returned (.slice A' n c') ∧ Rd w' A' (n * 3) (flat3 xs) ∧ n ≤ c' ∧ c' ≤ 9223372036854775807 ∧ Mod Non w w' := by
  have hlen : xs.length = n := by have := hx.1; rw [flat3_len] at this; omega
  have HN := Lib.hid hlen
  have HX := Lib.hid hx
  clear hlen hx
  go_enter Tryz.func29, Tryz.ntmps29
  go_wp2_with fail
  go_loopw [3, 4] (fun v i wr => ∃ (k : Nat), k ≤ n ∧ i = .int .i64 k ∧ wr.ownsRow w.heap.size 67 3 v k (flat3 (xs.take k)) ∧ Hid (Mod Non w wr)) (fun _ i _ => n - (intOf i).toNat)
  case atStart => exact ⟨0, Nat.zero_le _, rfl, World.ownsRow_nil _ _ _ _, Mod.refl _ _⟩
  case round =>
    obtain ⟨k, hk, rfl, hown, HM⟩ := hrel
    obtain ⟨Av, cv, rfl, hcv, hcv2⟩ := own_slice hown
    have hrw : w.heap.size ≤ wr.heap.size := HM.out.size
    have HOWN := Lib.hid hown
    have hrow := hown.lt
    clear hown
    by_cases hlt : k < n
    · obtain ⟨b, o, y, rfl, hy, k0, k1, k2⟩ := HX.out.file hlt
      have HSN := Lib.hid (take_snoc' xs k y hy)
      obtain ⟨⟨yn, ysf, yb⟩, yA, yc⟩ := y
      simp only at k0 k1 k2
      have K0 := Lib.hid k0
      have K1 := Lib.hid k1
      have K2 := Lib.hid k2
      have g0 := HM.out.cell k0 (fun h => h)
      have g1 := HM.out.cell k1 (fun h => h)
      have g2 := HM.out.cell k2 (fun h => h)
      have i1 : (0 : Int) ≤ (k : Int) := by omega
      have i2 : (k : Int) < (n : Int) := by omega
      have hbl : b < wr.heap.size := World.block_lt_of_cell? wr _ g2
      clear hy k0 k1 k2
      go_wp2_with fail
      go_region_held3 (fun w' => w'.cell? ⟨b, o + k * 3, none⟩ = some (.string yn) ∧ w'.cell? ⟨b, o + k * 3 + 1, none⟩ = some (.int .i64 (ysf : Int)) ∧ w'.cell? ⟨b, o + k * 3 + 2, none⟩ = some (.slice yA yb.length yc))
        (first | exact ⟨g0q, g1q, g2q⟩ | go_keep)
        (first
          | (refine step_appF _ rfl (.tmp 11) (.tmp 28) rfl w.heap.size (.slice Av k cv) k (xs.take k) rfl ((own_mod (S := Non) HOWN.out ((Mod.refl Non wr).drew) (fun _ _ h => h)).alloc _) _ 1 1 [⟨⟨yn, ysf, yb⟩, yA, yc⟩] rfl (one_file _ _ ⟨⟨yn, ysf, yb⟩, yA, yc⟩) (by omega) (by simp; omega) ?_
             intro qA qc qw qhc qhcm qown qg qat
             have MW := Lib.hid ((HM.out.drew.alloc (.cells #[.string yn, .int .i64 (ysf : Int), .slice yA yb.length yc] 67)).trans (Mod.of_grown (S := fun g => (Value.slice Av k cv).ownBlock = some g) qg fun _ h => h) fun g hg => .inr (hrow g hg).1)
             have g0q := MW.out.cell K0.out (fun h => h)
             have g1q := MW.out.cell K1.out (fun h => h)
             have g2q := MW.out.cell K2.out (fun h => h)
             have QOWN := Lib.hid qown
             clear qown qg qat))
      all_goals
        clear g0q g1q g2q
        go_wp2_with fail
        go_roundw
        case rel => exact ⟨k + 1, by omega, by go_num, by rw [HSN.out]; exact QOWN.out, MW.out⟩
        case measure => simp [intOf]; omega
    · obtain rfl : k = n := by omega
      go_wp2_with fail
      go_ret
      have hr := Rd.of_own3 HOWN.out
      rw [List.take_of_length_le (by rw [HN.out]; omega)] at hr
      have hmx : maxLen = 9223372036854775807 := rfl
      exact ⟨Av, cv, rfl, hr, hcv, by omega, HM.out⟩

end Go.Proofs.YtdpjnpjmokncdaaGreatDoor
