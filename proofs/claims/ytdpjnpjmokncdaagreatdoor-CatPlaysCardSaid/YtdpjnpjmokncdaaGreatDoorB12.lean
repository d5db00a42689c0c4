/- disk: Cut, Crash. -/
import Derived.Test.YtdpjnpjmokncdaaGreatDoorB11
import Derived.Test.YtdpjnpjmokncdaaGreatDoorB10
import Derived.Laws.BitsLemmas
import Derived.BigQuiet
import Derived.Deep.QuietTactic
namespace Go.Proofs.YtdpjnpjmokncdaaGreatDoor
open Go.RowKit

def cutE (ops : Int) : Int := if ops < 0 then 1 else 0
def cutD (D : Dk) (ops : Int) : Dk := if ops < 0 ∨ D.off = true then D else { D with left := ops }

set_option maxRecDepth 100000 in
set_option maxHeartbeats 800000 in
theorem cut_any (F : Nat → Prop) (d : Nat) (D : Dk) (ops : Int) (w : World) (h : DiskIs w F d D) :
    Calls Tryz.prog 19 #[.pointer (some ⟨d, 0, none⟩), .int .i64 ops] w (DkPost F d (cutD D ops) (.int .i64 (cutE ops)) w) := by
  have HH := Lib.hid h
  obtain ⟨G, m, kvs, hA, hFd, hFm, hGF, hFp, hFl⟩ := h
  have c2 : w.cell? ⟨d, 2, none⟩ = some (.map (some m)) := hA.blk.cell 2
  have c4 : w.cell? ⟨d, 4, none⟩ = some (.int .i64 D.left) := hA.blk.cell 4
  have c5 : w.cell? ⟨d, 5, none⟩ = some (.bool D.off) := hA.blk.cell 5
  have f4 := hA.blk.frozen 4
  have HA := Lib.hid hA
  clear hA
  by_cases ho : ops < 0
  · have H1 : Hid (cutD D ops = D ∧ cutE ops = 1) := ⟨by unfold cutD; rw [if_pos (.inl ho)], by unfold cutE; rw [if_pos ho]⟩
    rw [H1.out.1, H1.out.2]
    go_enter Tryz.func19, Tryz.ntmps19
    go_wp2_with (go_at_call 48; refine (made_yes d m _ c2).mono ?_; rintro e w' ⟨rfl, rfl⟩)
    go_ret
    exact ⟨rfl, F, HH.out, Mod.refl _ _, fun k hk => .inl hk⟩
  · have H2 : Hid (cutE ops = 0) := by show cutE ops = 0; unfold cutE; rw [if_neg ho]
    rw [H2.out]
    have ho' : 0 ≤ ops := by omega
    clear ho
    cases hoff : D.off with
    | true =>
      have H1 : Hid (cutD D ops = D) := by show cutD D ops = D; unfold cutD; rw [if_pos (.inr hoff)]
      rw [H1.out]
      rw [hoff] at c5
      clear hoff
      go_enter Tryz.func19, Tryz.ntmps19
      go_wp2_with (go_at_call 48; refine (made_yes d m _ c2).mono ?_; rintro e w' ⟨rfl, rfl⟩)
      go_ret
      exact ⟨rfl, F, HH.out, Mod.refl _ _, fun k hk => .inl hk⟩
    | false =>
      have H1 : Hid (cutD D ops = { D with left := ops }) := by show cutD D ops = _; unfold cutD; rw [if_neg (by rw [hoff]; simp; omega)]
      rw [H1.out]
      rw [hoff] at c5
      clear hoff
      go_enter Tryz.func19, Tryz.ntmps19
      go_wp2_with (go_at_call 48; refine (made_yes d m _ c2).mono ?_; rintro e w' ⟨rfl, rfl⟩)
      go_ret
      exact ⟨rfl, dk_fin (HA.out.setLeft ops) hFd hFm hFp hFl (fun k hk => .inl (hGF k hk)) ((Mod.refl F w).setCell (p := ⟨d, 4, none⟩) (.inl hFd) _) HA.out.lay.lt⟩

/-- how much of a file a crash leaves. -/
def keepC (f : Fl) (p : Option Int) : Nat := match p with
  | none => f.safe
  | some v => f.safe + (v % 18446744073709551616).toNat % (f.bytes.length - f.safe + 1)
def crash1 (D : Dk) (nm : ByteArray) (p : Option Int) : Dk := match findF D.files nm with
  | none => D
  | some f => { D with used := D.used - ((f.bytes.length : Int) - keepC f p), files := putF D.files ⟨nm, keepC f p, f.bytes.take (keepC f p)⟩ }
def crashL (picks : List Int) : Nat → List ByteArray → Dk → Dk
  | _, [], D => D
  | k, nm :: r, D => crashL picks (k + 1) r (crash1 D nm picks[k]?)
def crashD (D : Dk) (picks : List Int) (L : List ByteArray) : Dk := { crashL picks 0 L D with off := false, left := -1 }

theorem crashL_snoc (picks : List Int) (x : ByteArray) : ∀ (L : List ByteArray) (k : Nat) (D : Dk), crashL picks k (L ++ [x]) D = crash1 (crashL picks k L D) x picks[k + L.length]?
  | [], k, D => rfl
  | a :: L, k, D => by
    rw [List.cons_append, crashL, crashL_snoc picks x L (k + 1), crashL]
    simp only [List.length_cons]
    rw [show k + 1 + L.length = k + (L.length + 1) by omega]
theorem keepC_le {f : Fl} (h : f.safe ≤ f.bytes.length) (p : Option Int) : f.safe ≤ keepC f p ∧ keepC f p ≤ f.bytes.length := by
  unfold keepC
  split
  · omega
  · rename_i v
    have := Nat.mod_lt (v % 18446744073709551616).toNat (show 0 < f.bytes.length - f.safe + 1 by omega)
    omega
theorem crash1_ok {D : Dk} (ok : DkOk D) (nm : ByteArray) (p : Option Int) : DkOk (crash1 D nm p) := by
  unfold crash1
  split
  · exact ok
  · rename_i f hf
    have hm := findF_mem hf
    have hs := ok.sf f hm
    have hfn := find_name hf
    obtain ⟨h1, h2⟩ := keepC_le hs p
    have hc := find_cost hf
    have hu := ok.us
    have u1 := ok.u1
    have hused : usedF (putF D.files ⟨nm, keepC f p, f.bytes.take (keepC f p)⟩) = D.used - ((f.bytes.length : Int) - keepC f p) := by
      rw [usedF_put_has ⟨nm, keepC f p, f.bytes.take (keepC f p)⟩ hf, hu]
      simp only [costF, hfn, List.length_take]
      omega
    have hpos : ∀ l : List Fl, 0 ≤ usedF l := fun l => by
      induction l with
      | nil => simp [usedF]
      | cons a l ih => simp only [usedF, costF]; omega
    refine ⟨ok.n0, ok.n1, by simp only; rw [← hused]; exact hpos _, by simp only; omega, ok.l0, ok.l1, hused, ?_, ?_, nodup_put _ ok.nd⟩
    · intro g hg
      rcases mem_put hg with rfl | hg
      · simp; omega
      · exact ok.sf g hg
    · intro g hg
      rcases mem_put hg with rfl | hg
      · have := ok.nm f hm; rwa [hfn] at this
      · exact ok.nm g hg
theorem crashL_ok (picks : List Int) : ∀ (L : List ByteArray) (k : Nat) {D : Dk}, DkOk D → DkOk (crashL picks k L D)
  | [], _, _, ok => ok
  | _ :: L, k, _, ok => crashL_ok picks L (k + 1) (crash1_ok ok _ _)
theorem crashD_ok {D : Dk} (ok : DkOk D) (picks : List Int) (L : List ByteArray) : DkOk (crashD D picks L) := by
  have h := crashL_ok picks L 0 ok
  exact ⟨h.n0, h.n1, h.u0, h.u1, by simp [crashD], by simp [crashD], h.us, h.sf, h.nm, h.nd⟩
theorem crash1_names (D : Dk) (nm : ByteArray) (p : Option Int) : (crash1 D nm p).files.map (·.name) = D.files.map (·.name) := by
  unfold crash1
  split
  · rfl
  · rename_i f hf
    exact names_put_has ⟨nm, keepC f p, f.bytes.take (keepC f p)⟩ hf
theorem crashL_names (picks : List Int) : ∀ (L : List ByteArray) (k : Nat) (D : Dk), (crashL picks k L D).files.map (·.name) = D.files.map (·.name)
  | [], _, _ => rfl
  | _ :: L, k, _ => by rw [crashL, crashL_names picks L (k + 1), crash1_names]
theorem findF_of_name {nm : ByteArray} : ∀ {fs : List Fl}, nm ∈ fs.map (·.name) → ∃ f, findF fs nm = some f
  | [], h => by cases h
  | g :: r, h => by
    rw [findF]
    split
    · exact ⟨g, rfl⟩
    · rename_i hn
      rw [List.map_cons] at h
      rcases List.mem_cons.1 h with h | h
      · exact absurd h.symm hn
      · exact findF_of_name h
theorem names_mem {D : Dk} {L : List ByteArray} (h : NamesAre D L) : ∀ nm ∈ L, nm ∈ D.files.map (·.name) := by
  obtain ⟨ss, hp, rfl⟩ := h
  intro nm hn
  obtain ⟨l, hl, rfl⟩ := List.mem_map.1 hn
  have h1 := (List.mem_mergeSort.1 hl)
  have h2 := hp.mem_iff.1 h1
  obtain ⟨f, hf, he⟩ := List.mem_map.1 h2
  exact List.mem_map.2 ⟨f, hf, by rw [← he]⟩

end Go.Proofs.YtdpjnpjmokncdaaGreatDoor

/- The files of a disk in the order of their names, as the reference keeps them. Plain. -/
namespace Go.Proofs.YtdpjnpjmokncdaaGreatDoor
open Go.RowKit

def keyF (f : Fl) : List UInt8 := f.name.data.toList
theorem keyF_inj {a b : ByteArray} (h : a.data.toList = b.data.toList) : a = b := by
  have := Array.toList_inj.1 h
  cases a; cases b; simp_all
theorem lt_irrefl' (a : List UInt8) : ¬ a < a := List.lt_irrefl a
/-- L is the files fs, rising by name. -/
structure SortedOf (fs L : List Fl) : Prop where
  perm : L.Perm fs
  sort : L.Pairwise fun a b => keyF a < keyF b
theorem sorted_nodup {L : List Fl} (h : L.Pairwise fun a b => keyF a < keyF b) : (L.map (·.name)).Nodup := by
  refine List.Pairwise.map _ (fun a b hab e => ?_) h
  unfold keyF at hab
  rw [e] at hab
  exact List.lt_irrefl _ hab
theorem find_iff {fs : List Fl} (nd : (fs.map (·.name)).Nodup) {k : ByteArray} {f : Fl} : findF fs k = some f ↔ f ∈ fs ∧ f.name = k := by
  induction fs with
  | nil => simp [findF]
  | cons g r ih =>
    rw [List.map_cons, List.nodup_cons] at nd
    rw [findF]
    split
    · rename_i h
      constructor
      · intro e; cases e; exact ⟨.head _, h⟩
      · rintro ⟨h1, h2⟩
        rcases List.mem_cons.1 h1 with rfl | h1
        · rfl
        · exact absurd (List.mem_map.2 ⟨f, h1, by rw [h2, h]⟩) nd.1
    · rename_i h
      rw [ih nd.2]
      constructor
      · rintro ⟨h1, h2⟩; exact ⟨.tail _ h1, h2⟩
      · rintro ⟨h1, h2⟩
        rcases List.mem_cons.1 h1 with rfl | h1
        · exact absurd h2 h
        · exact ⟨h1, h2⟩
theorem SortedOf.find {fs L : List Fl} (h : SortedOf fs L) (nd : (fs.map (·.name)).Nodup) (k : ByteArray) : findF L k = findF fs k := by
  have h1 := sorted_nodup h.sort
  cases hf : findF fs k with
  | some f =>
    obtain ⟨a, b⟩ := (find_iff nd).1 hf
    exact (find_iff h1).2 ⟨h.perm.mem_iff.2 a, b⟩
  | none =>
    cases hl : findF L k with
    | none => rfl
    | some g =>
      obtain ⟨a, b⟩ := (find_iff h1).1 hl
      have := (find_iff nd).2 ⟨h.perm.mem_iff.1 a, b⟩
      rw [hf] at this; cases this
theorem usedF_perm {a b : List Fl} (h : a.Perm b) : usedF a = usedF b := by
  induction h with
  | nil => rfl
  | cons x _ ih => rw [usedF, usedF, ih]
  | swap x y l => simp only [usedF]; omega
  | trans _ _ i1 i2 => rw [i1, i2]

/-- put, as the reference does. -/
def putS (g : Fl) : Bool → List Fl → List Fl
  | done, [] => if done then [] else [g]
  | done, f :: r => (if !done && decide (keyF g ≤ keyF f) then [g] else []) ++ (if f.name = g.name then [] else [f]) ++ putS g (done || decide (keyF g ≤ keyF f)) r
def dropS (k : ByteArray) (L : List Fl) : List Fl := L.filter fun f => decide (f.name ≠ k)

theorem putF_perm (g : Fl) : ∀ {fs : List Fl}, (fs.map (·.name)).Nodup → (putF fs g).Perm (g :: dropS g.name fs)
  | [], _ => by simp [putF, dropS]
  | f :: r, nd => by
    rw [List.map_cons, List.nodup_cons] at nd
    rw [putF]
    by_cases h : f.name = g.name
    · rw [if_pos h]
      have : dropS g.name (f :: r) = r := by
        unfold dropS
        rw [List.filter_cons_of_neg (by simp [h])]
        refine List.filter_eq_self.2 fun x hx => ?_
        simp only [decide_eq_true_eq]
        intro e
        exact nd.1 (List.mem_map.2 ⟨x, hx, by rw [e, h]⟩)
      rw [this]
    · rw [if_neg h]
      have : dropS g.name (f :: r) = f :: dropS g.name r := by
        unfold dropS
        rw [List.filter_cons_of_pos (by simp [h])]
      rw [this]
      exact ((putF_perm g nd.2).cons f).trans (List.Perm.swap _ _ _)
theorem delF_perm (k : ByteArray) : ∀ {fs : List Fl}, (fs.map (·.name)).Nodup → delF fs k = dropS k fs
  | [], _ => rfl
  | f :: r, nd => by
    rw [List.map_cons, List.nodup_cons] at nd
    rw [delF]
    unfold dropS
    by_cases h : f.name = k
    · rw [if_pos h, List.filter_cons_of_neg (by simp [h])]
      refine (List.filter_eq_self.2 fun x hx => ?_).symm
      simp only [decide_eq_true_eq]
      intro e
      exact nd.1 (List.mem_map.2 ⟨x, hx, by rw [e, h]⟩)
    · rw [if_neg h, List.filter_cons_of_pos (by simp [h]), delF_perm k nd.2]
      rfl
theorem putS_perm (g : Fl) : ∀ (L : List Fl) (done : Bool), (putS g done L).Perm ((if done then [] else [g]) ++ dropS g.name L)
  | [], done => by simp [putS, dropS]
  | f :: r, done => by
    rw [putS]
    have ih := putS_perm g r (done || decide (keyF g ≤ keyF f))
    have hd : dropS g.name (f :: r) = (if f.name = g.name then [] else [f]) ++ dropS g.name r := by
      unfold dropS
      by_cases h : f.name = g.name
      · rw [List.filter_cons_of_neg (by simp [h]), if_pos h]; rfl
      · rw [List.filter_cons_of_pos (by simp [h]), if_neg h]; rfl
    rw [hd]
    cases done with
    | true =>
      simp only [Bool.not_true, Bool.false_and, Bool.false_eq_true, if_false, Bool.true_or, if_true, List.nil_append] at ih ⊢
      exact ih.append_left _
    | false =>
      by_cases hk : keyF g ≤ keyF f
      · simp only [hk, decide_true, Bool.not_false, Bool.and_true, if_true, Bool.or_true, Bool.false_eq_true, if_false] at ih ⊢
        simpa [List.append_assoc] using (ih.append_left (if f.name = g.name then [] else [f])).cons g
      · simp only [hk, decide_false, Bool.not_false, Bool.and_false, Bool.false_eq_true, if_false, Bool.or_false] at ih ⊢
        refine (ih.append_left (if f.name = g.name then [] else [f])).trans ?_
        split
        · simp
        · simp only [List.cons_append, List.nil_append]
          exact List.Perm.swap _ _ _
theorem putS_true (g : Fl) : ∀ (L : List Fl), putS g true L = dropS g.name L
  | [] => rfl
  | f :: r => by
    rw [putS]
    unfold dropS
    have ih := putS_true g r
    unfold dropS at ih
    by_cases h : f.name = g.name
    · rw [List.filter_cons_of_neg (by simp [h]), if_pos h]; simpa using ih
    · rw [List.filter_cons_of_pos (by simp [h]), if_neg h]; simpa using ih
theorem dropS_sorted (k : ByteArray) {L : List Fl} (h : L.Pairwise fun a b => keyF a < keyF b) : (dropS k L).Pairwise fun a b => keyF a < keyF b := h.filter _
theorem mem_dropS {k : ByteArray} {L : List Fl} {f : Fl} (h : f ∈ dropS k L) : f ∈ L := (List.mem_filter.1 h).1
theorem putS_sorted (g : Fl) : ∀ {L : List Fl}, L.Pairwise (fun a b => keyF a < keyF b) → (putS g false L).Pairwise fun a b => keyF a < keyF b
  | [], _ => by simp [putS]
  | f :: r, h => by
    have h1 := List.pairwise_cons.1 h
    rw [putS]
    by_cases hk : keyF g ≤ keyF f
    · simp only [hk, decide_true, Bool.not_false, Bool.and_true, if_true, Bool.or_true, List.cons_append, List.nil_append]
      rw [putS_true]
      refine List.pairwise_cons.2 ⟨fun x hx => ?_, ?_⟩
      · rcases List.mem_append.1 hx with hx | hx
        · split at hx
          · cases hx
          · rename_i hne
            simp only [List.mem_singleton] at hx
            subst hx
            refine Decidable.byContradiction fun hc => hne ?_
            exact keyF_inj (List.le_antisymm (List.not_lt.1 hc) hk)
        · exact List.lt_of_le_of_lt hk (h1.1 x (mem_dropS hx))
      · refine List.pairwise_append.2 ⟨by split <;> simp, dropS_sorted _ h1.2, fun a ha b hb => ?_⟩
        split at ha
        · cases ha
        · simp only [List.mem_singleton] at ha
          subst ha
          exact h1.1 b (mem_dropS hb)
    · simp only [hk, decide_false, Bool.not_false, Bool.and_false, Bool.false_eq_true, if_false, Bool.or_false, List.nil_append]
      have hlt : keyF f < keyF g := List.not_le.1 hk
      have hne : f.name ≠ g.name := fun e => List.lt_irrefl (keyF g) (by
        have : keyF f = keyF g := by unfold keyF; rw [e]
        rwa [this] at hlt)
      rw [if_neg hne]
      refine List.pairwise_cons.2 ⟨fun x hx => ?_, putS_sorted g h1.2⟩
      have := (putS_perm g r false).mem_iff.1 hx
      simp only [Bool.false_eq_true, if_false, List.singleton_append, List.mem_cons] at this
      rcases this with rfl | hx
      · exact hlt
      · exact h1.1 x (mem_dropS hx)
theorem SortedOf.put {fs L : List Fl} (h : SortedOf fs L) (nd : (fs.map (·.name)).Nodup) (g : Fl) : SortedOf (putF fs g) (putS g false L) :=
  ⟨(putS_perm g L false).trans (((h.perm.filter _).cons g).trans (putF_perm g nd).symm), putS_sorted g h.sort⟩
theorem SortedOf.del {fs L : List Fl} (h : SortedOf fs L) (nd : (fs.map (·.name)).Nodup) (k : ByteArray) : SortedOf (delF fs k) (dropS k L) :=
  ⟨by rw [delF_perm k nd]; exact h.perm.filter _, dropS_sorted k h.sort⟩
theorem sorted_unique {L K : List Fl} (hL : L.Pairwise fun a b => keyF a < keyF b) (hK : K.Pairwise fun a b => keyF a < keyF b) (h : L.Perm K) : L = K :=
  h.eq_of_pairwise (fun _ _ _ _ h1 h2 => absurd (List.lt_trans h1 h2) (List.lt_irrefl _)) hL hK
/-- Names tells the names of the sorted files. -/
theorem SortedOf.names {D : Dk} {L : List Fl} (h : SortedOf D.files L) {N : List ByteArray} (hN : NamesAre D N) : N = L.map (·.name) := by
  obtain ⟨ss, hp, rfl⟩ := hN
  have h1 : (ss.mergeSort fun x y => decide (x ≤ y)).Perm (L.map keyF) := (List.mergeSort_perm ss _).trans (hp.trans (h.perm.map keyF).symm)
  have h2 : (ss.mergeSort fun x y => decide (x ≤ y)).Pairwise (fun a b => a ≤ b) := by
    have := List.pairwise_mergeSort (le := fun x y : List UInt8 => decide (x ≤ y)) (fun a b c h1 h2 => by
      simp only [decide_eq_true_eq] at *
      exact List.le_trans h1 h2) (fun a b => by
      simp only [Bool.or_eq_true, decide_eq_true_eq]
      exact List.le_total a b) ss
    exact this.imp fun h => by simpa using h
  have h3 : (L.map keyF).Pairwise (fun a b => a ≤ b) := List.Pairwise.map _ (fun _ _ hab => List.le_of_lt hab) h.sort
  have h4 : (ss.mergeSort fun x y => decide (x ≤ y)) = L.map keyF := h1.eq_of_pairwise (fun _ _ _ _ h1 h2 => List.le_antisymm h1 h2) h2 h3
  rw [h4, List.map_map]
  refine List.map_congr_left fun f _ => ?_
  show (⟨(keyF f).toArray⟩ : ByteArray) = f.name
  exact keyF_inj (by simp [keyF])
theorem sorted_of (D : Dk) (nd : (D.files.map (·.name)).Nodup) : ∃ L, SortedOf D.files L := by
  obtain ⟨fs⟩ : ∃ fs, D.files = fs := ⟨_, rfl⟩
  rename_i hfs
  rw [hfs] at nd ⊢
  clear hfs
  induction fs with
  | nil => exact ⟨[], .refl _, .nil⟩
  | cons f r ih =>
    rw [List.map_cons, List.nodup_cons] at nd
    obtain ⟨L, hL⟩ := ih nd.2
    refine ⟨putS f false L, ?_, putS_sorted f hL.sort⟩
    refine (putS_perm f L false).trans ?_
    simp only [Bool.false_eq_true, if_false, List.singleton_append]
    have : dropS f.name L = L := List.filter_eq_self.2 fun x hx => by
      simp only [decide_eq_true_eq]
      intro e
      exact nd.1 (List.mem_map.2 ⟨x, hL.perm.mem_iff.1 hx, e⟩)
    rw [this]
    exact hL.perm.cons f

end Go.Proofs.YtdpjnpjmokncdaaGreatDoor

/- The reference's disk in memory: a row of files, three cells each, rising by name. -/
namespace Go.Proofs.YtdpjnpjmokncdaaGreatDoor
open Go.RowKit

/-- a file as three cells. -/
structure Fc where
  f : Fl
  A : Option Addr
  c : Nat
def Fc.cells (x : Fc) : List Value := [.string x.f.name, .int .i64 (x.f.safe : Int), .slice x.A x.f.bytes.length x.c]
def flat3 : List Fc → List Value
  | [] => []
  | x :: r => x.cells ++ flat3 r
theorem flat3_append (p q : List Fc) : flat3 (p ++ q) = flat3 p ++ flat3 q := by
  induction p with
  | nil => rfl
  | cons b r ih => rw [List.cons_append, flat3, flat3, ih, List.append_assoc]
theorem flat3_len (xs : List Fc) : (flat3 xs).length = xs.length * 3 := by
  induction xs with
  | nil => rfl
  | cons b r ih => rw [flat3, List.length_append, ih, List.length_cons]; simp [Fc.cells]; omega
theorem flat3_get {xs : List Fc} {i : Nat} {x : Fc} (h : xs[i]? = some x) (j : Nat) (hj : j < 3) : (flat3 xs)[i * 3 + j]? = x.cells[j]? := by
  induction xs generalizing i with
  | nil => cases h
  | cons b r ih =>
    cases i with
    | zero =>
      simp only [List.getElem?_cons_zero, Option.some.injEq] at h
      subst h
      rw [flat3, Nat.zero_mul, Nat.zero_add, List.getElem?_append_left (by simp [Fc.cells]; omega)]
    | succ i =>
      rw [List.getElem?_cons_succ] at h
      have e : (i + 1) * 3 + j = (b.cells).length + (i * 3 + j) := by simp [Fc.cells]; omega
      rw [flat3, e, List.getElem?_append_right (by omega), Nat.add_sub_cancel_left]
      exact ih h
/-- the cells of a file in a row. -/
theorem Rd.file {w : World} {A : Option Addr} {n : Nat} {xs : List Fc} (h : Rd w A (n * 3) (flat3 xs)) {i : Nat} (hi : i < n) :
    ∃ b o x, A = some ⟨b, o, none⟩ ∧ xs[i]? = some x ∧ w.cell? ⟨b, o + i * 3, none⟩ = some (.string x.f.name) ∧ w.cell? ⟨b, o + i * 3 + 1, none⟩ = some (.int .i64 (x.f.safe : Int)) ∧ w.cell? ⟨b, o + i * 3 + 2, none⟩ = some (.slice x.A x.f.bytes.length x.c) := by
  have hl : xs.length = n := by have := h.1; rw [flat3_len] at this; omega
  obtain ⟨b, o, rfl, hc⟩ := h.2 (by omega)
  have hx : xs[i]? = some xs[i] := List.getElem?_eq_getElem (by omega)
  refine ⟨b, o, xs[i], rfl, hx, ?_, ?_, ?_⟩
  · exact hc (i * 3) _ (by rw [show i * 3 = i * 3 + 0 from rfl, flat3_get hx 0 (by omega)]; rfl)
  · rw [Nat.add_assoc]; exact hc (i * 3 + 1) _ (by rw [flat3_get hx 1 (by omega)]; rfl)
  · rw [Nat.add_assoc]; exact hc (i * 3 + 2) _ (by rw [flat3_get hx 2 (by omega)]; rfl)

/-- The parts of the reference's disk: block r its cells; the row of files and their bytes lie in blocks of B. -/
structure RkAt (w : World) (B : Nat → Prop) (r : Nat) (D : Dk) (A : Option Addr) (n c : Nat) (xs : List Fc) : Prop where
  blk : Blk w r 72 #[.int .i64 D.n, .slice A n c, .int .i64 D.done, .int .i64 D.left, .bool D.off]
  row : Rd w A (n * 3) (flat3 xs)
  nc : n ≤ c
  cm : c ≤ 9223372036854775807
  fs : SortedOf D.files (xs.map (·.f))
  byt : ∀ x ∈ xs, Rd w x.A x.f.bytes.length (by8 x.f.bytes) ∧ x.f.bytes.length ≤ x.c ∧ x.c ≤ 9223372036854775807 ∧ ∀ b, blkOf x.A = some b → B b
  rowB : ∀ b, blkOf A = some b → B b
  rB : ¬ B r
/-- The reference's disk at block r, all that it reads in blocks of E. -/
def RkIs (w : World) (E : Nat → Prop) (r : Nat) (D : Dk) : Prop :=
  ∃ B A n c xs, RkAt w B r D A n c xs ∧ E r ∧ (∀ k, B k → E k) ∧ ∀ k, E k → k < w.heap.size

section
variable {w w' : World} {B E S : Nat → Prop} {r n c : Nat} {D : Dk} {A : Option Addr} {xs : List Fc}
theorem RkAt.mod (h : RkAt w B r D A n c xs) (hm : Mod S w w') (hr : ¬ S r) (hB : ∀ k, B k → ¬ S k) : RkAt w' B r D A n c xs :=
  ⟨h.blk.mod hm hr, h.row.mod hm fun _ b hb => hB b (h.rowB b hb), h.nc, h.cm, h.fs, fun x hx => by
    obtain ⟨h1, h2, h3, h4⟩ := h.byt x hx
    exact ⟨h1.mod hm fun _ b hb => hB b (h4 b hb), h2, h3, h4⟩, h.rowB, h.rB⟩
theorem RkAt.mod0 (h : RkAt w B r D A n c xs) (hm : Mod Non w w') : RkAt w' B r D A n c xs := h.mod hm (fun h => h) fun _ _ h => h
theorem RkIs.mod (h : RkIs w E r D) (hm : Mod S w w') (hS : ∀ k, E k → ¬ S k) : RkIs w' E r D := by
  obtain ⟨B, A, n, c, xs, h1, h2, h3, h4⟩ := h
  exact ⟨B, A, n, c, xs, h1.mod hm (hS _ h2) fun k hk => hS k (h3 k hk), h2, h3, fun k hk => Nat.lt_of_lt_of_le (h4 k hk) hm.size⟩
theorem RkIs.mod0 (h : RkIs w E r D) (hm : Mod Non w w') : RkIs w' E r D := h.mod hm fun _ _ h => h
theorem RkIs.elt (h : RkIs w E r D) : ∀ k, E k → k < w.heap.size := by
  obtain ⟨B, A, n, c, xs, h1, h2, h3, h4⟩ := h; exact h4
theorem RkAt.len (h : RkAt w B r D A n c xs) : xs.length = n := by have := h.row.1; rw [flat3_len] at this; omega
end

/-- where a file is in a row; -1: it is not there. -/
def atS : List Fl → ByteArray → Int
  | [], _ => -1
  | f :: r, k => if f.name = k then 0 else if atS r k < 0 then -1 else atS r k + 1

/-- what a call on the reference's disk leaves. -/
def RkPost (E : Nat → Prop) (r : Nat) (D' : Dk) (v : Value) (w : World) (e : Ending) (w' : World) : Prop :=
  e = .returned v ∧ ∃ E', RkIs w' E' r D' ∧ Mod (fun k => k = r) w w' ∧ ∀ k, E' k → E k ∨ w.heap.size ≤ k

end Go.Proofs.YtdpjnpjmokncdaaGreatDoor

/- The reference's disk: at, Has. -/
namespace Go.Proofs.YtdpjnpjmokncdaaGreatDoor
open Go.RowKit

theorem find_no {nm : ByteArray} : ∀ {L : List Fl}, (∀ g ∈ L, g.name ≠ nm) → findF L nm = none
  | [], _ => rfl
  | f :: r, h => by rw [findF, if_neg (h f (.head _)), find_no fun g hg => h g (.tail _ hg)]
theorem find_at {nm : ByteArray} {f : Fl} : ∀ {L : List Fl} {k : Nat}, (∀ g ∈ L.take k, g.name ≠ nm) → L[k]? = some f → f.name = nm → findF L nm = some f
  | [], _, _, h, _ => by simp at h
  | g :: r, 0, _, h, h3 => by
    simp only [List.getElem?_cons_zero, Option.some.injEq] at h
    subst h
    rw [findF, if_pos h3]
  | g :: r, k + 1, h1, h, h3 => by
    rw [List.getElem?_cons_succ] at h
    rw [findF, if_neg (h1 g (by simp)), find_at (fun x hx => h1 x (by rw [List.take_succ_cons]; exact .tail _ hx)) h h3]
/-- what at tells. -/
def AtPost (L : List Fl) (nm : ByteArray) (w : World) (e : Ending) (w' : World) : Prop :=
  w = w' ∧ ((findF L nm = none ∧ e = .returned (.int .i64 (-1))) ∨ ∃ (i : Nat) (f : Fl), L[i]? = some f ∧ findF L nm = some f ∧ f.name = nm ∧ e = .returned (.int .i64 (i : Int)))

set_option maxRecDepth 100000 in
set_option maxHeartbeats 1000000 in
theorem at_any (nm : ByteArray) (B : Nat → Prop) (r : Nat) (D : Dk) (A : Option Addr) (n c : Nat) (xs : List Fc) (w : World) (h : RkAt w B r D A n c xs) :
    Calls Tryz.prog 136 #[.pointer (some ⟨r, 0, none⟩), .string nm] w (AtPost (xs.map (·.f)) nm w) := by
  have c1 : w.cell? ⟨r, 1, none⟩ = some (.slice A n c) := h.blk.cell 1
  have hnc := h.nc
  have hcm := h.cm
  have hlen := h.len
  have HR := Lib.hid h.row
  have HLEN := Lib.hid hlen
  clear h hlen
  go_enter Tryz.func136, Tryz.ntmps136
  go_wp2_with fail
  go_loop [5] (fun i => ∃ k : Nat, k ≤ n ∧ i = .int .i64 k ∧ Hid (∀ g ∈ (xs.map (·.f)).take k, g.name ≠ nm)) (fun i => n - (intOf i).toNat)
  case atStart => exact ⟨0, Nat.zero_le _, rfl, by simp [Hid]⟩
  case round =>
    obtain ⟨k, hk, rfl, HE⟩ := hrel
    by_cases hlt : k < n
    · obtain ⟨b, o, x, rfl, hx, g0, g1, g2⟩ := HR.out.file hlt
      have HX : Hid ((xs.map (·.f))[k]? = some x.f) := by show _ = _; rw [List.getElem?_map, hx]; rfl
      clear g1 g2 hx
      obtain ⟨xn, hxn⟩ : ∃ xn, x.f.name = xn := ⟨_, rfl⟩
      rw [hxn] at g0
      have HXN := Lib.hid hxn
      clear hxn
      by_cases he : xn = nm
      · subst he
        go_wp2_with fail
        go_ret
        exact ⟨rfl, .inr ⟨k, x.f, HX.out, find_at HE.out HX.out HXN.out, HXN.out, rfl⟩⟩
      · have hs2 : (xn.toList == nm.toList) = false := beq_eq_false_iff_ne.2 fun e => he (keyF_inj (by rwa [ByteArray.toList_eq, ByteArray.toList_eq] at e))
        go_wp2_with fail
        go_round
        case rel =>
          refine ⟨k + 1, by omega, by go_num, ?_⟩
          show ∀ g ∈ (xs.map (·.f)).take (k + 1), g.name ≠ nm
          rw [take_snoc' _ k x.f HX.out]
          intro g hg
          rcases List.mem_append.1 hg with hg | hg
          · exact HE.out g hg
          · simp only [List.mem_singleton] at hg
            rw [hg, HXN.out]
            exact he
        case measure => simp [intOf]; omega
    · obtain rfl : k = n := by omega
      go_wp2_with fail
      go_ret
      refine ⟨rfl, .inl ⟨find_no ?_, rfl⟩⟩
      have := HE.out
      rwa [List.take_of_length_le (by simp [HLEN.out])] at this

set_option maxRecDepth 100000 in
set_option maxHeartbeats 1000000 in
theorem hasR_any (nm : ByteArray) (E : Nat → Prop) (r : Nat) (D : Dk) (w : World) (h : RkIs w E r D) (nd : (D.files.map (·.name)).Nodup) :
    Calls Tryz.prog 97 #[.pointer (some ⟨r, 0, none⟩), .string nm] w fun e w' => e = .returned (.bool (findF D.files nm).isSome) ∧ w = w' := by
  obtain ⟨B, A, n, c, xs, h1, _⟩ := h
  have HC := Lib.hid (at_any nm B r D A n c xs w h1)
  have HF := Lib.hid (h1.fs.find nd nm)
  obtain ⟨bb, hbb⟩ : ∃ bb, (findF D.files nm).isSome = bb := ⟨_, rfl⟩
  rw [hbb]
  have HB := Lib.hid hbb
  clear h1 hbb
  go_enter Tryz.func97, Tryz.ntmps97
  go_wp2_with fail
  refine HC.out.mono ?_
  rintro e w1 ⟨rfl, hp⟩
  rcases hp with ⟨hf, rfl⟩ | ⟨i, f, hi, hf, hn, rfl⟩
  · have hb := HB.out
    rw [← HF.out, hf] at hb
    subst hb
    clear hf
    go_wp2_with fail
    go_ret
    exact ⟨rfl, rfl⟩
  · have hb := HB.out
    rw [← HF.out, hf] at hb
    subst hb
    have i0 : (0 : Int) ≤ (i : Int) := by omega
    clear hf hi hn
    go_wp2_with fail
    go_ret
    exact ⟨rfl, rfl⟩

end Go.Proofs.YtdpjnpjmokncdaaGreatDoor

/- The reference's disk: right, step, Cut, Free. -/
namespace Go.Proofs.YtdpjnpjmokncdaaGreatDoor
open Go.RowKit

def rkCells (D : Dk) (A : Option Addr) (n c : Nat) : Array Value := #[.int .i64 D.n, .slice A n c, .int .i64 D.done, .int .i64 D.left, .bool D.off]
section
variable {w w' : World} {B E S : Nat → Prop} {r n c : Nat} {D : Dk} {A : Option Addr} {xs : List Fc}
/-- a cell turned, the files not. -/
theorem RkAt.set_ (h : RkAt w B r D A n c xs) (i : Nat) (u : Value) (D' : Dk) (hf : D'.files = D.files) (hc : (rkCells D A n c).setIfInBounds i u = rkCells D' A n c) : RkAt (w.setCell ⟨r, i, none⟩ u) B r D' A n c xs := by
  have hm : Mod (fun k => k = r) w (w.setCell ⟨r, i, none⟩ u) := Mod.setCell (S := fun k => k = r) (p := ⟨r, i, none⟩) (Mod.refl _ w) (.inl rfl) u
  have h2 := h.mod (S := fun k => k = r ∧ False) (w' := w) ⟨rfl, rfl, rfl, Nat.le_refl _, fun _ _ _ => rfl⟩ (fun h => h.2) (fun _ _ h => h.2)
  refine ⟨?_, h.row.mod hm fun _ b hb e => h.rB (e ▸ h.rowB b hb), h.nc, h.cm, by rw [hf]; exact h.fs, fun x hx => ?_, h.rowB, h.rB⟩
  · have := h.blk.set_ i u
    rw [show (#[.int .i64 D.n, .slice A n c, .int .i64 D.done, .int .i64 D.left, .bool D.off] : Array Value) = rkCells D A n c from rfl, hc] at this
    exact this
  · obtain ⟨h1, h2, h3, h4⟩ := h.byt x hx
    exact ⟨h1.mod hm fun _ b hb e => h.rB (e ▸ h4 b hb), h2, h3, h4⟩
theorem RkAt.setLeft (h : RkAt w B r D A n c xs) (x : Int) : RkAt (w.setCell ⟨r, 3, none⟩ (.int .i64 x)) B r { D with left := x } A n c xs := h.set_ 3 _ _ rfl rfl
theorem RkAt.setDone (h : RkAt w B r D A n c xs) (x : Int) : RkAt (w.setCell ⟨r, 2, none⟩ (.int .i64 x)) B r { D with done := x } A n c xs := h.set_ 2 _ _ rfl rfl
theorem RkAt.setOff (h : RkAt w B r D A n c xs) (x : Bool) : RkAt (w.setCell ⟨r, 4, none⟩ (.bool x)) B r { D with off := x } A n c xs := h.set_ 4 _ _ rfl rfl
/-- 'used' is not in memory. -/
theorem RkAt.used_ (h : RkAt w B r D A n c xs) (x : Int) : RkAt w B r { D with used := x } A n c xs := ⟨h.blk, h.row, h.nc, h.cm, h.fs, h.byt, h.rowB, h.rB⟩
end

set_option maxRecDepth 100000 in
set_option maxHeartbeats 400000 in
theorem rightR_any (b : Bool) (B : Nat → Prop) (r : Nat) (D : Dk) (A : Option Addr) (n c : Nat) (xs : List Fc) (w : World) (h : RkAt w B r D A n c xs) :
    Calls Tryz.prog 153 #[.pointer (some ⟨r, 0, none⟩), .bool b] w fun e w' => e = .returned (.int .i64 (rightE b D)) ∧ w = w' := by
  have c4 : w.cell? ⟨r, 4, none⟩ = some (.bool D.off) := h.blk.cell 4
  clear h
  unfold rightE
  generalize D.off = off at *
  cases b <;> cases off
  all_goals
    go_enter Tryz.func153, Tryz.ntmps153
    go_wp2_with fail
    go_ret
    exact ⟨rfl, rfl⟩

def stepD (D : Dk) : Dk := if D.left = 0 then { D with off := true, left := -1 } else { D with left := max (D.left - 1) (-1), done := wrap64 (D.done + 1) }
set_option maxRecDepth 100000 in
set_option maxHeartbeats 1000000 in
theorem stepR_any (B : Nat → Prop) (r : Nat) (D : Dk) (A : Option Addr) (n c : Nat) (xs : List Fc) (w : World) (h : RkAt w B r D A n c xs) (l0 : -1 ≤ D.left) (l1 : D.left ≤ 9223372036854775807) :
    Calls Tryz.prog 154 #[.pointer (some ⟨r, 0, none⟩)] w fun e w' => e = .returned (.bool (decide (D.left ≠ 0))) ∧ RkAt w' B r (stepD D) A n c xs ∧ Mod (fun k => k = r) w w' := by
  have c3 : w.cell? ⟨r, 3, none⟩ = some (.int .i64 D.left) := h.blk.cell 3
  have c2 : w.cell? ⟨r, 2, none⟩ = some (.int .i64 D.done) := h.blk.cell 2
  have c4 : w.cell? ⟨r, 4, none⟩ = some (.bool D.off) := h.blk.cell 4
  have f2 := h.blk.frozen 2
  have f3 := h.blk.frozen 3
  have f4 := h.blk.frozen 4
  have HA := Lib.hid h
  clear h
  rcases (show D.left = 0 ∨ 0 < D.left ∨ D.left = -1 by omega) with hz | hz | hz
  · have H0 := Lib.hid hz
    rw [decide_eq_false (by rw [hz]; simp)]
    have HD : Hid (stepD D = { D with off := true, left := -1 }) := by show _ = _; unfold stepD; rw [if_pos hz]
    rw [HD.out]
    rw [hz] at c3
    clear hz
    go_enter Tryz.func154, Tryz.ntmps154
    go_wp2_with fail
    go_ret
    exact ⟨rfl, (HA.out.setOff true).setLeft (-1), (((Mod.refl (fun k => k = r) w).set1 4 _).set1 3 _)⟩
  · have HD : Hid (stepD D = { D with left := D.left - 1, done := wrap64 (D.done + 1) }) := by show _ = _; unfold stepD; rw [if_neg (by omega), Int.max_eq_left (by omega)]
    rw [decide_eq_true (by omega), HD.out]
    have hne : (D.left == 0) = false := by simp; omega
    generalize hl : D.left = l at *
    have HL := Lib.hid hl
    clear hl
    go_enter Tryz.func154, Tryz.ntmps154
    go_wp2_with fail
    go_ret
    exact ⟨rfl, (HA.out.setLeft (l - 1)).setDone _, (((Mod.refl (fun k => k = r) w).set1 3 _).set1 2 _)⟩
  · have HD : Hid (stepD D = { D with left := D.left, done := wrap64 (D.done + 1) }) := by show _ = _; unfold stepD; rw [if_neg (by omega), Int.max_eq_right (by omega), hz]
    rw [decide_eq_true (by omega), HD.out]
    rw [hz] at c3 ⊢
    have HZ := Lib.hid hz
    clear hz
    go_enter Tryz.func154, Tryz.ntmps154
    go_wp2_with fail
    go_ret
    refine ⟨rfl, ?_, ((Mod.refl (fun k => k = r) w).set1 2 _)⟩
    have := HA.out.setDone (wrap64 (D.done + 1))
    rw [← HZ.out]
    exact this

set_option maxRecDepth 100000 in
set_option maxHeartbeats 400000 in
theorem cutR_any (ops : Int) (E : Nat → Prop) (r : Nat) (D : Dk) (w : World) (h : RkIs w E r D) :
    Calls Tryz.prog 69 #[.pointer (some ⟨r, 0, none⟩), .int .i64 ops] w (RkPost E r (cutD D ops) (.int .i64 (cutE ops)) w) := by
  have HH := Lib.hid h
  obtain ⟨B, A, n, c, xs, hA, hE, hBE, hlt⟩ := h
  have c4 : w.cell? ⟨r, 4, none⟩ = some (.bool D.off) := hA.blk.cell 4
  have c3 : w.cell? ⟨r, 3, none⟩ = some (.int .i64 D.left) := hA.blk.cell 3
  have f3 := hA.blk.frozen 3
  have HA := Lib.hid hA
  clear hA
  by_cases ho : ops < 0
  · have H1 : Hid (cutD D ops = D ∧ cutE ops = 1) := ⟨by unfold cutD; rw [if_pos (.inl ho)], by unfold cutE; rw [if_pos ho]⟩
    rw [H1.out.1, H1.out.2]
    go_enter Tryz.func69, Tryz.ntmps69
    go_wp2_with fail
    go_ret
    exact ⟨rfl, E, HH.out, Mod.refl _ _, fun k hk => .inl hk⟩
  · have H2 : Hid (cutE ops = 0) := by show cutE ops = 0; unfold cutE; rw [if_neg ho]
    rw [H2.out]
    have ho' : 0 ≤ ops := by omega
    cases hoff : D.off with
    | true =>
      have H1 : Hid (cutD D ops = D) := by show cutD D ops = D; unfold cutD; rw [if_pos (.inr hoff)]
      rw [H1.out]
      rw [hoff] at c4
      clear hoff ho
      go_enter Tryz.func69, Tryz.ntmps69
      go_wp2_with fail
      go_ret
      exact ⟨rfl, E, HH.out, Mod.refl _ _, fun k hk => .inl hk⟩
    | false =>
      have H1 : Hid (cutD D ops = { D with left := ops }) := by show cutD D ops = _; unfold cutD; rw [if_neg (by rw [hoff]; simp; omega)]
      rw [H1.out]
      rw [hoff] at c4
      clear hoff ho
      go_enter Tryz.func69, Tryz.ntmps69
      go_wp2_with fail
      go_ret
      exact ⟨rfl, E, ⟨B, A, n, c, xs, HA.out.setLeft ops, hE, hBE, fun k hk => by simpa [World.setCell] using hlt k hk⟩, (Mod.refl (fun k => k = r) w).set1 3 _, fun k hk => .inl hk⟩

end Go.Proofs.YtdpjnpjmokncdaaGreatDoor

/- The reference's disk: Named, Free, New. -/
namespace Go.Proofs.YtdpjnpjmokncdaaGreatDoor
open Go.RowKit

theorem indexByte_neg : ∀ l : List UInt8, Lib.indexByte l 0 < 0 ↔ ∀ c ∈ l, c ≠ 0
  | [] => by simp [Lib.indexByte]
  | a :: l => by
    have ih := indexByte_neg l
    have hge := Lib.indexByte_ge l 0
    unfold Lib.indexByte
    by_cases h : a = 0
    · subst h; simp
    · constructor
      · intro h1 c hc
        rcases List.mem_cons.1 hc with rfl | hc
        · exact h
        · refine ih.1 ?_ c hc
          simp [h] at h1
          split at h1 <;> omega
      · intro h1
        have h2 := ih.2 fun c hc => h1 c (.tail _ hc)
        simp [h]
        split <;> omega

set_option maxRecDepth 100000 in
set_option maxHeartbeats 1000000 in
theorem namedR_any (s : ByteArray) (w : World) (hs : s.size ≤ 9223372036854775807) : Calls Tryz.prog 96 #[.string s] w fun e w' => e = .returned (.bool (named s)) ∧ w = w' := by
  obtain ⟨b, hb⟩ : ∃ b, named s = b := ⟨_, rfl⟩
  have HB := Lib.hid hb
  rw [hb]
  clear hb
  by_cases h1 : 1 ≤ s.size
  · by_cases h2 : s.size ≤ 100
    · have HN : Hid (b = decide (Lib.indexByte s.data.toList 0 < 0)) := by
        show _ = _
        rw [← HB.out]
        unfold named
        simp [h1, h2]
      go_enter Tryz.func96, Tryz.ntmps96
      go_wp2_with fail
      go_loop [3] (fun i => ∃ k : Nat, k ≤ s.size ∧ i = .int .i64 k ∧ Hid (∀ c ∈ s.data.toList.take k, c ≠ 0)) (fun i => s.size - (intOf i).toNat)
      case atStart => exact ⟨0, Nat.zero_le _, rfl, by simp [Hid]⟩
      case round =>
        obtain ⟨k, hk, rfl, HE⟩ := hrel
        by_cases hlt : k < s.size
        · have hg : s.data.toList[k]? = some s[k] := by
            rw [List.getElem?_eq_getElem (by simpa using hlt)]; rfl
          have HG := Lib.hid hg
          clear hg
          by_cases hz : (s[k].toNat : Int) = 0
          · have hzb : ((s[k].toNat : Int) == 0) = true := by simp [hz]
            have HZ := Lib.hid hz
            clear hz
            go_wp2_with fail
            go_ret
            have : b = false := by
              rw [HN.out]
              refine decide_eq_false fun h => ?_
              have h2 := (indexByte_neg _).1 h _ (List.mem_of_getElem? HG.out)
              refine h2 (UInt8.toNat_inj.1 ?_)
              have := HZ.out
              simpa using this
            exact ⟨by rw [this]; rfl, rfl⟩
          · have hzb : ((s[k].toNat : Int) == 0) = false := by simpa using hz
            have HZ := Lib.hid hz
            clear hz
            go_wp2_with fail
            go_round
            case rel =>
              refine ⟨k + 1, by omega, by go_num, ?_⟩
              show ∀ c ∈ s.data.toList.take (k + 1), c ≠ 0
              rw [take_snoc _ k _ HG.out]
              intro c hc
              rcases List.mem_append.1 hc with hc | hc
              · exact HE.out c hc
              · simp only [List.mem_singleton] at hc
                subst hc
                intro e
                refine HZ.out ?_
                rw [e]; rfl
            case measure => simp [intOf]; omega
        · go_wp2_with fail
          go_ret
          have : b = true := by
            rw [HN.out]
            refine decide_eq_true ((indexByte_neg _).2 ?_)
            have := HE.out
            rwa [List.take_of_length_le (by simp; omega)] at this
          exact ⟨by rw [this]; rfl, rfl⟩
    · have : b = false := by
        rw [← HB.out]; unfold named; simp; omega
      subst this
      go_enter Tryz.func96, Tryz.ntmps96
      go_wp2_with fail
      go_ret
      exact ⟨rfl, rfl⟩
  · have : b = false := by
      rw [← HB.out]; unfold named; simp; omega
    subst this
    go_enter Tryz.func96, Tryz.ntmps96
    go_wp2_with fail
    go_ret
    exact ⟨rfl, rfl⟩

theorem usedF_take {L : List Fl} {k : Nat} {f : Fl} (h : L[k]? = some f) : usedF (L.take (k + 1)) = usedF (L.take k) + costF f := by
  rw [take_snoc' L k f h]
  have : ∀ (p : List Fl), usedF (p ++ [f]) = usedF p + costF f := fun p => by
    induction p with
    | nil => simp [usedF]
    | cons a p ih => rw [List.cons_append, usedF, usedF, ih]; omega
  exact this _
theorem usedF_pos : ∀ l : List Fl, 0 ≤ usedF l
  | [] => by simp [usedF]
  | a :: l => by have := usedF_pos l; simp only [usedF, costF]; omega
theorem usedF_take_le (L : List Fl) (k : Nat) : 0 ≤ usedF (L.take k) ∧ usedF (L.take k) ≤ usedF L := by
  refine ⟨usedF_pos _, ?_⟩
  induction L generalizing k with
  | nil => simp [usedF]
  | cons a L ih =>
    cases k with
    | zero => have := usedF_pos (a :: L); simpa [usedF] using this
    | succ k => rw [List.take_succ_cons, usedF, usedF]; have := ih k; omega

set_option maxRecDepth 100000 in
set_option maxHeartbeats 1000000 in
theorem freeR_any (B : Nat → Prop) (r : Nat) (D : Dk) (A : Option Addr) (n c : Nat) (xs : List Fc) (w : World) (h : RkAt w B r D A n c xs) (n0 : 0 ≤ D.n) (n1 : D.n ≤ 1099511627776) (hu : usedF D.files ≤ 1000000000000000) :
    Calls Tryz.prog 99 #[.pointer (some ⟨r, 0, none⟩)] w fun e w' => e = .returned (.int .i64 (D.n - usedF D.files)) ∧ ∃ q, w' = w.drewN q := by
  have c1 : w.cell? ⟨r, 1, none⟩ = some (.slice A n c) := h.blk.cell 1
  have c0 : w.cell? ⟨r, 0, none⟩ = some (.int .i64 D.n) := h.blk.cell 0
  have hnc := h.nc
  have hcm := h.cm
  have hlen := h.len
  have HR := Lib.hid h.row
  have hus : usedF (xs.map (·.f)) = usedF D.files := usedF_perm h.fs.perm
  have HLEN := Lib.hid hlen
  obtain ⟨N, hN⟩ : ∃ N, D.n = N := ⟨_, rfl⟩
  obtain ⟨U, hU⟩ : ∃ U, usedF D.files = U := ⟨_, rfl⟩
  rw [hN] at c0 n0 n1
  rw [hU] at hu hus
  rw [hN, hU]
  have HUS := Lib.hid hus
  clear h hlen hus hU hN
  go_enter Tryz.func99, Tryz.ntmps99
  go_wp2_with fail
  go_loopw [3, 4] (fun v i wr => ∃ k q : Nat, k ≤ n ∧ i = .int .i64 k ∧ v = .int .i64 (N - usedF ((xs.map (·.f)).take k)) ∧ wr = w.drewN q) (fun _ i _ => n - (intOf i).toNat)
  case atStart => exact ⟨0, 0, Nat.zero_le _, rfl, by simp [usedF], rfl⟩
  case round =>
    obtain ⟨k, q, hk, rfl, rfl, rfl⟩ := hrel
    by_cases hlt : k < n
    · obtain ⟨b, o, x, rfl, hx, g0, g1, g2⟩ := HR.out.file hlt
      have hX : (xs.map (·.f))[k]? = some x.f := by rw [List.getElem?_map, hx]; rfl
      have hut := usedF_take hX
      have hle := usedF_take_le (xs.map (·.f)) (k + 1)
      have hle2 := usedF_take_le (xs.map (·.f)) k
      rw [HUS.out] at hle hle2
      obtain ⟨a, ha⟩ : ∃ a, N - usedF ((xs.map (·.f)).take k) = a := ⟨_, rfl⟩
      obtain ⟨nm, hnm⟩ : ∃ nm, x.f.name = nm := ⟨_, rfl⟩
      obtain ⟨bl, hbl⟩ : ∃ bl, x.f.bytes.length = bl := ⟨_, rfl⟩
      unfold costF at hut
      rw [hnm, hbl] at hut
      rw [hnm] at g0
      rw [hbl] at g2
      have HUT : Hid (N - usedF ((xs.map (·.f)).take (k + 1)) = a - 16 - (nm.size : Int) - (bl : Int)) := by show _ = _; omega
      have i1 : (0 : Int) ≤ (k : Int) := by omega
      have i2 : (k : Int) < (n : Int) := by omega
      obtain ⟨e1, e2, e3⟩ : IntKind.i64.wrap (a - 16) = a - 16 ∧ IntKind.i64.wrap (a - 16 - (nm.size : Int)) = a - 16 - (nm.size : Int) ∧ IntKind.i64.wrap (a - 16 - (nm.size : Int) - (bl : Int)) = a - 16 - (nm.size : Int) - (bl : Int) :=
        ⟨IntWalk.i64_in _ (by omega), IntWalk.i64_in _ (by omega), IntWalk.i64_in _ (by omega)⟩
      rw [ha]
      clear g1 hx hX hut hle hle2 ha hnm hbl
      go_wp2_with fail
      go_quiet (fail)
      clear e1 e2 e3
      go_wp2_with fail
      go_roundw
      case rel => exact ⟨k + 1, _, by omega, by go_num, by rw [HUT.out], rfl⟩
      case measure => simp [intOf]; omega
    · obtain rfl : k = n := by omega
      go_wp2_with fail
      go_ret
      refine ⟨?_, q, rfl⟩
      rw [List.take_of_length_le (by simp [HLEN.out]), HUS.out]
      rfl

end Go.Proofs.YtdpjnpjmokncdaaGreatDoor

/- The reference's disk: a row of files grows; put, drop. -/
namespace Go.Proofs.YtdpjnpjmokncdaaGreatDoor
open Go.RowKit

section
variable {P : Program} (w : World)
/-- append of files (three cells each) onto a row of the call's own. -/
theorem run_app3 (base : Nat) (t ty e : TypeId) (i : TypeInfo) (z : Value) (bytes : Nat) (ht : P.underlying t = some (.slice e)) (hi : P.info? e = some i) (hz : i.zero = some z)
    (hsize : i.size = 3) (hby : i.bytes = bytes) (hzs : z.cells.size = 3)
    (v : Value) (n : Nat) (xs : List Value) (hown : w.ownsRow base e 3 v n xs)
    (A : Option Addr) (m c : Nat) (news : List Value) (hr : Rd w A (m * 3) news) (h1 : ∀ u ∈ news, u.oneCell' = true)
    (h63 : n + m ≤ maxLen) (hbytes : (n + m) * bytes ≤ 140737488355328) (hbase : base ≤ w.heap.size) :
    ∃ v' w', (Builtin.append_ #[t, t] ty #[v, .slice A m c]).run P w = .ok v' w' ∧ w'.ownsRow base e 3 v' (n + m) (xs ++ news) ∧ w.grownBy w' v.ownBlock ∧
      (v'.ownBlock = v.ownBlock ∨ v'.ownBlock = some w.heap.size) := by
  rcases A with _ | ad
  · have hm : m = 0 := by
      rcases Nat.eq_zero_or_pos m with h0 | h0
      · exact h0
      · obtain ⟨b, o, h, _⟩ := hr.2 (by omega)
        cases h
    subst hm
    have hn : news = [] := List.eq_nil_of_length_eq_zero (by have := hr.1; omega)
    subst hn
    exact ⟨v, w, app_nil w base t ty e i 3 ht hi v n xs hown c, by simpa using hown, World.grownBy.refl w _, .inl rfl⟩
  · have hcells : ∀ j u, news[j]? = some u → w.cell? (ad.add j) = some u := by
      intro j u hu
      rcases Nat.eq_zero_or_pos m with h0 | h0
      · subst h0
        have hn : news = [] := List.eq_nil_of_length_eq_zero (by have := hr.1; omega)
        subst hn
        simp at hu
      · obtain ⟨b, o, h, hc⟩ := hr.2 (by omega)
        injection h with h
        subst h
        have := hc j u hu
        unfold Addr.add
        split
        · rename_i e; subst e; simpa using this
        · simpa using this
    obtain ⟨v', w', hrun, h2, h3, _, h5⟩ := run_append_own_at (P := P) w base t ty e i z 3 bytes ht hi hz hsize hby hzs (by omega) v n xs hown ad m c news (by rw [hr.1]) hcells h1 h63 hbytes hbase
    exact ⟨v', w', hrun, h2, h3, h5⟩
end

theorem flat3_one (xs : List Fc) : ∀ u ∈ flat3 xs, u.oneCell' = true := by
  induction xs with
  | nil => simp [flat3]
  | cons b r ih =>
    intro u hu
    rw [flat3, List.mem_append] at hu
    rcases hu with hu | hu
    · simp only [Fc.cells, List.mem_cons, List.not_mem_nil, or_false] at hu
      rcases hu with rfl | rfl | rfl <;> rfl
    · exact ih u hu
theorem rowF : ∃ i z, Tryz.prog.info? 67 = some i ∧ i.zero = some z ∧ i.size = 3 ∧ i.bytes = 48 ∧ z.cells.size = 3 := by
  obtain ⟨i, hi, h1, h2, h3⟩ := info_parts (P := Tryz.prog) (e := 67) (z := .agg #[.string ⟨#[]⟩, .int .i64 0, .slice none 0 0]) (size := 3) (bytes := 48) (by kernel_rfl)
  exact ⟨i, _, hi, h1, h2, h3, rfl⟩
theorem wpList_appF (w : World) {ops : Array Oper} {rest : List Oper} {o : Oper} {a : Act} {Q : Exit → Act → World → Prop} (hgd : o.guard = none) (s x : Operand)
    (ho : o.op = .call { callee := .builtin .append, args := #[s, x], argTypes := #[50, 50] })
    (base : Nat) (v : Value) (n : Nat) (xs : List Fc) (hs : a.eval s = v) (hown : w.ownsRow base 67 3 v n (flat3 xs))
    (A : Option Addr) (m c : Nat) (news : List Fc) (hx : a.eval x = .slice A m c) (hr : Rd w A (m * 3) (flat3 news))
    (h63 : n + m ≤ 1000000000000) (hbase : base ≤ w.heap.size)
    (h : ∀ A' c' w', n + m ≤ c' → c' ≤ 9223372036854775807 → w'.ownsRow base 67 3 (.slice A' (n + m) c') (n + m) (flat3 (xs ++ news)) → w.grownBy w' v.ownBlock → (blkOf A' = v.ownBlock ∨ blkOf A' = some w.heap.size) → wpList Tryz.prog ops Q rest (a.put o.dst (.slice A' (n + m) c')) w') : wpList Tryz.prog ops Q (o :: rest) a w := by
  obtain ⟨i, z, hi, hz, hs1, hb, hzs⟩ := rowF
  refine wpList_plain hgd fun K hK => ?_
  obtain ⟨v', w', hrun, h2, h3, h4⟩ := run_app3 (P := Tryz.prog) w base 50 o.type 67 i z 48 Tryz.underlying50 hi hz hs1 hb hzs v n (flat3 xs) hown A m c (flat3 news) hr (flat3_one _) (by simp only [maxLen]; omega) (by omega) hbase
  obtain ⟨A', c', rfl, hc, hcm⟩ := own_slice h2
  unfold Oper.wp execOp
  simp only [ho, resolve, invoke, builtin, Sem.run_bind, Sem.run_pure, Result.andThen_ok, List.map_toArray, List.map_cons, List.map_nil, hs, hx, hrun]
  rw [← flat3_append] at h2
  exact hK _ _ (h A' c' w' hc (by have : maxLen = 9223372036854775807 := rfl; omega) h2 h3 (by cases A' <;> exact h4))

/-- one file in a block of its own. -/
theorem one_file (w : World) (t : TypeId) (x : Fc) : Rd (w.alloc (.cells #[.string x.f.name, .int .i64 (x.f.safe : Int), .slice x.A x.f.bytes.length x.c] t)) (some ⟨w.heap.size, 0, none⟩) (1 * 3) (flat3 [x]) := by
  refine ⟨rfl, fun _ => ⟨w.heap.size, 0, rfl, fun j u hu => ?_⟩⟩
  rw [Nat.zero_add, cell_of_row _ _ j _ t (0, 0) (heap_alloc_new w _)]
  match j, hu with
  | 0, hu => exact hu
  | 1, hu => exact hu
  | 2, hu => exact hu

end Go.Proofs.YtdpjnpjmokncdaaGreatDoor

/- The reference's disk: put, drop. -/
namespace Go.Proofs.YtdpjnpjmokncdaaGreatDoor
open Go.RowKit

theorem bl_eq : ∀ (x y : List UInt8), Op.bytesLess x y = decide (x < y)
  | [], [] => by simp [Op.bytesLess]
  | _ :: _, [] => by simp [Op.bytesLess]
  | [], _ :: _ => by simp [Op.bytesLess]
  | a :: x, b :: y => by
    rw [Op.bytesLess, bl_eq x y]
    by_cases h1 : a < b
    · simp [h1, List.cons_lt_cons_iff]
    · by_cases h2 : a = b
      · subst h2; simp
      · simp [h1, h2, List.cons_lt_cons_iff]
theorem bl_name (x y : ByteArray) : Op.bytesLess x.toList y.toList = decide (x.data.toList < y.data.toList) := by rw [bl_eq, ByteArray.toList_eq, ByteArray.toList_eq]
theorem putS_le (g f : Fl) (r : List Fl) (h : keyF g ≤ keyF f) : putS g false (f :: r) = [g] ++ ((if f.name = g.name then [] else [f]) ++ putS g true r) := by
  rw [putS]; simp [h]
theorem putS_gt (g f : Fl) (r : List Fl) (h : ¬ keyF g ≤ keyF f) : putS g false (f :: r) = f :: putS g false r := by
  have hne : f.name ≠ g.name := fun e => h (by unfold keyF; rw [e]; exact List.le_refl _)
  rw [putS]; simp [h, hne]
theorem putS_tr (g f : Fl) (r : List Fl) : putS g true (f :: r) = (if f.name = g.name then [] else [f]) ++ putS g true r := by
  rw [putS]; simp
theorem Rd.of_own3 {w : World} {A : Option Addr} {n base : Nat} {e : TypeId} {c : Nat} {vs : List Value} (h : w.ownsRow base e 3 (.slice A n c) n vs) : Rd w A (n * 3) vs := by
  obtain ⟨hl, hr⟩ := h
  refine ⟨by omega, fun hn => ?_⟩
  rcases hr with ⟨hv, h0⟩ | ⟨g, cap, cur, hv, hg, hh, hnc, hcm, hsz, ht⟩
  · omega
  · injection hv with hA _ _
    subst hA
    refine ⟨g, 0, rfl, fun j u hu => ?_⟩
    rw [Nat.zero_add, cell_of_row w g j cur e (0, 0) hh]
    rw [← ht, List.getElem?_take] at hu
    split at hu
    · simpa using hu
    · cases hu
/-- between two rounds of put. -/
structure PtM (w0 : World) (x : Fc) (xs ys : List Fc) (k : Nat) (done : Bool) (wr : World) : Prop where
  mod : Mod Non w0 wr
  eq : putS x.f false (xs.map (·.f)) = ys.map (·.f) ++ putS x.f done ((xs.map (·.f)).drop k)
  mem : ∀ y ∈ ys, y = x ∨ y ∈ xs

theorem slice_blk (A : Option Addr) (n c : Nat) : (Value.slice A n c).ownBlock = blkOf A := by cases A <;> rfl
/-- the end of put and of drop: the new row in the place of the old one. -/
theorem put_end {x : Fc} {E B : Nat → Prop} {r : Nat} {D : Dk} {w w0 wr : World} {A : Option Addr} {n c : Nat} {xs ys : List Fc} {Av : Option Addr} {cv n' : Nat} (_hn' : ys.length = n') (h1 : RkAt w B r D A n c xs) (nd : (D.files.map (·.name)).Nodup)
    (hE : E r) (hBE : ∀ k, B k → E k) (hEl : ∀ k, E k → k < w.heap.size) (m0 : Mod Non w w0) (m1 : Mod Non w0 wr) (hb : Blk wr r 72 #[.int .i64 D.n, .slice A n c, .int .i64 D.done, .int .i64 D.left, .bool D.off])
    (hown : wr.ownsRow w0.heap.size 67 3 (.slice Av n' cv) n' (flat3 ys)) (hs : putS x.f false (xs.map (·.f)) = ys.map (·.f)) (hmem : ∀ y ∈ ys, y = x ∨ y ∈ xs)
    (hx : Rd w x.A x.f.bytes.length (by8 x.f.bytes)) (hx1 : x.f.bytes.length ≤ x.c) (hx2 : x.c ≤ 9223372036854775807) (hxr : ∀ b, blkOf x.A = some b → b ≠ r ∧ b < w.heap.size) (hr : r < w.heap.size) :
    ∃ E', RkIs (wr.setCell ⟨r, 1, none⟩ (.slice Av n' cv)) E' r { D with files := putF D.files x.f } ∧ Mod (fun k => k = r) w (wr.setCell ⟨r, 1, none⟩ (.slice Av n' cv)) ∧ ∀ k, E' k → E k ∨ blkOf x.A = some k ∨ w.heap.size ≤ k := by
  have hm : Mod (fun k => k = r) wr (wr.setCell ⟨r, 1, none⟩ (.slice Av n' cv)) := (Mod.refl (fun k => k = r) wr).set1 1 _
  have ho := own_slice hown
  obtain ⟨A', c', he, hc1, hc2⟩ := ho
  injection he with _ _ he
  subst he
  have hs0 := m0.size
  have hs1 := m1.size
  have hmx : maxLen = 9223372036854775807 := rfl
  have hbase := own_base hown
  have hrd := Rd.of_own3 hown
  have hsz : (wr.setCell ⟨r, 1, none⟩ (.slice Av n' cv)).heap.size = wr.heap.size := by simp [World.setCell]
  refine ⟨fun k => E k ∨ blkOf x.A = some k ∨ (w.heap.size ≤ k ∧ k < wr.heap.size), ⟨fun k => B k ∨ (blkOf x.A = some k) ∨ (w.heap.size ≤ k ∧ k < wr.heap.size), Av, n', cv, ys, ⟨hb.set_ 1 _, ?_, hc1, by omega, ?_, ?_, ?_, ?_⟩, .inl hE, fun k hk => hk.imp (hBE k) id, ?_⟩, ((m0.non.trans0 m1).trans hm fun k hk => .inl hk), fun k hk => hk.imp id fun h => h.imp id fun h => h.1⟩
  · refine hrd.mod hm fun _ b hbk e => ?_
    have := hbase b hbk
    omega
  · show SortedOf (putF D.files x.f) _
    rw [← hs]
    exact h1.fs.put nd x.f
  · intro y hy
    rcases hmem y hy with rfl | hy
    · exact ⟨((hx.mod0 m0).mod0 m1).mod hm fun _ b hbk e => (hxr b hbk).1 e, hx1, hx2, fun b hbk => .inr (.inl hbk)⟩
    · obtain ⟨a1, a2, a3, a4⟩ := h1.byt y hy
      exact ⟨((a1.mod0 m0).mod0 m1).mod hm fun _ b hbk e => h1.rB (e ▸ a4 b hbk), a2, a3, fun b hbk => .inl (a4 b hbk)⟩
  · intro b hbk
    have h3 := hbase b hbk
    refine .inr (.inr ⟨by omega, ?_⟩)
    exact (hown.lt b (by rw [slice_blk]; exact hbk)).2
  · rintro (h | h | h)
    · exact h1.rB h
    · exact (hxr _ h).1 rfl
    · omega
  · intro k hk
    rw [hsz]
    rcases hk with hk | hk | hk
    · have := hEl k hk; omega
    · have := (hxr k hk).2; omega
    · exact hk.2

set_option maxRecDepth 100000 in
set_option maxHeartbeats 2000000 in
theorem put_any (x : Fc) (E : Nat → Prop) (r : Nat) (D : Dk) (w : World) (h : RkIs w E r D) (nd : (D.files.map (·.name)).Nodup) (hl : D.files.length ≤ 100000000000)
    (hx : Rd w x.A x.f.bytes.length (by8 x.f.bytes)) (hx1 : x.f.bytes.length ≤ x.c) (hx2 : x.c ≤ 9223372036854775807) (hxr : ∀ b, blkOf x.A = some b → b ≠ r ∧ b < w.heap.size) :
    Calls Tryz.prog 98 #[.pointer (some ⟨r, 0, none⟩), .agg #[.string x.f.name, .int .i64 (x.f.safe : Int), .slice x.A x.f.bytes.length x.c]] w fun e w' =>
      e = .returned (.tuple #[]) ∧ ∃ E', RkIs w' E' r { D with files := putF D.files x.f } ∧ Mod (fun k => k = r) w w' ∧ ∀ k, E' k → E k ∨ blkOf x.A = some k ∨ w.heap.size ≤ k := by
  obtain ⟨B, A, n, c, xs, h1, hE, hBE, hEl⟩ := h
  have hlen : xs.length = D.files.length := by have := h1.fs.perm.length_eq; simpa using this
  have hn := h1.len
  have hnc := h1.nc
  have hcm := h1.cm
  have hrl := h1.blk.lt
  obtain ⟨xf, xA, xc⟩ := x
  obtain ⟨xn, xs0, xb⟩ := xf
  simp only at hx hx1 hx2 hxr
  obtain ⟨w0, hw0⟩ : ∃ w0, w.alloc (.cells #[.string xn, .int .i64 (xs0 : Int), .slice xA xb.length xc] 67) = w0 := ⟨_, rfl⟩
  have hm0 : Mod Non w w0 := by rw [← hw0]; exact (Mod.refl Non w).alloc _
  have hsz : w0.heap.size = w.heap.size + 1 := by rw [← hw0]; simp
  have hbx : Blk w0 w.heap.size 67 #[.string xn, .int .i64 (xs0 : Int), .slice xA xb.length xc] := by rw [← hw0]; exact Blk.new w _ _
  have HBX := Lib.hid hbx
  have HR0 := Lib.hid (h1.mod0 hm0)
  have HW0 := Lib.hid hw0
  have HM0 := Lib.hid hm0
  have hn2 : n ≤ 100000000000 := by omega
  have HN := Lib.hid hn
  have HH1 := Lib.hid h1
  have HHX := Lib.hid hx
  clear hlen hn hm0 hbx h1 hx
  go_enter Tryz.func98, Tryz.ntmps98
  go_wp2_with fail
  clear hw0
  go_loopw [4, 5, 6] (fun v dn i wr => ∃ (k : Nat) (ys : List Fc) (done : Bool), k ≤ n ∧ ys.length ≤ k + done.toNat ∧ i = .int .i64 k ∧ dn = .bool done ∧ wr.ownsRow w0.heap.size 67 3 v ys.length (flat3 ys) ∧ Hid (PtM w0 ⟨⟨xn, xs0, xb⟩, xA, xc⟩ xs ys k done wr)) (fun _ _ i _ => n - (intOf i).toNat)
  case atStart => exact ⟨0, [], false, Nat.zero_le _, by simp, rfl, rfl, World.ownsRow_nil _ _ _ _, ⟨Mod.refl _ _, by simp, by simp⟩⟩
  case round =>
    obtain ⟨k, ys, done, hk, hyl, rfl, rfl, hown, HP⟩ := hrel
    obtain ⟨Av, cv, rfl, hcv, hcv2⟩ := own_slice hown
    have hrw : w0.heap.size ≤ wr.heap.size := HP.out.mod.size
    have HOWN := Lib.hid hown
    have hrow := hown.lt
    clear hown
    by_cases hlt : k < n
    · obtain ⟨b, o, y, rfl, hy, g0, g1, g2⟩ := HR0.out.row.file hlt
      have HY := Lib.hid hy
      obtain ⟨⟨yn, ysf, yb⟩, yA, yc⟩ := y
      simp only at g0 g1 g2
      have G0 := Lib.hid g0
      have G1 := Lib.hid g1
      have G2 := Lib.hid g2
      have i1 : (0 : Int) ≤ (k : Int) := by omega
      have i2 : (k : Int) < (n : Int) := by omega
      clear hy g0 g1 g2
      have HDR : Hid ((xs.map (·.f)).drop k = ⟨yn, ysf, yb⟩ :: (xs.map (·.f)).drop (k + 1)) := by
        show _ = _
        have : (xs.map (·.f))[k]? = some ⟨yn, ysf, yb⟩ := by rw [List.getElem?_map, HY.out]; rfl
        obtain ⟨h1, h2⟩ := List.getElem?_eq_some_iff.1 this
        rw [List.drop_eq_getElem_cons h1, h2]
      have c1x : wr.cell? ⟨r, 1, none⟩ = some (.slice (some ⟨b, o, none⟩) n c) := (HR0.out.mod0 HP.out.mod).blk.cell 1
      have b0x : wr.cell? ⟨w.heap.size, 0, none⟩ = some (.string xn) := (HBX.out.mod HP.out.mod fun h => h).cell 0
      have b1x : wr.cell? ⟨w.heap.size, 1, none⟩ = some (.int .i64 (xs0 : Int)) := (HBX.out.mod HP.out.mod fun h => h).cell 1
      have b2x : wr.cell? ⟨w.heap.size, 2, none⟩ = some (.slice xA xb.length xc) := (HBX.out.mod HP.out.mod fun h => h).cell 2
      have g0x : wr.cell? ⟨b, o + k * 3, none⟩ = some (.string yn) := HP.out.mod.cell G0.out (fun h => h)
      have g1x : wr.cell? ⟨b, o + k * 3 + 1, none⟩ = some (.int .i64 (ysf : Int)) := HP.out.mod.cell G1.out (fun h => h)
      have g2x : wr.cell? ⟨b, o + k * 3 + 2, none⟩ = some (.slice yA yb.length yc) := HP.out.mod.cell G2.out (fun h => h)
      cases done with
      | false =>
        simp only [Bool.toNat_false, Nat.add_zero] at hyl
        by_cases hle : keyF ⟨xn, xs0, xb⟩ ≤ keyF ⟨yn, ysf, yb⟩
        · have hbl : Op.bytesLess yn.toList xn.toList = false := by rw [bl_name]; exact decide_eq_false (List.not_lt.2 hle)
          have HLE := Lib.hid hle
          clear hle
          go_wp2_with fail
          go_quiet (fail)
          clear hbl
          go_wp2_with (at_builtin
                       refine wpList_appF _ rfl (.tmp 31) (.tmp 33) rfl w0.heap.size (.slice Av ys.length cv) ys.length ys rfl ((own_mod (S := Non) (w' := wr.drewN nq) HOWN.out ((Mod.refl Non wr).drewN nq) (fun _ _ h => h)).alloc _) _ 1 1 [⟨⟨xn, xs0, xb⟩, xA, xc⟩] rfl (one_file _ _ ⟨⟨xn, xs0, xb⟩, xA, xc⟩) (by simp; omega) (by simp; omega) ?_
                       intro pA pc pw phc phcm pown pg pat)
          have MP : Hid (Mod Non w0 pw) := ((HP.out.mod.drewN nq).alloc _).trans (Mod.of_grown (S := fun g => (Value.slice Av ys.length cv).ownBlock = some g) pg fun _ h => h) fun g hg => .inr (hrow g hg).1
          have hpl : pw.heap.size ≥ w0.heap.size := MP.out.size
          have POWN := Lib.hid pown
          have prow := pown.lt
          clear pown pg pat c1x b0x b1x b2x g0x g1x g2x
          have c1x : pw.cell? ⟨r, 1, none⟩ = some (.slice (some ⟨b, o, none⟩) n c) := (HR0.out.mod0 MP.out).blk.cell 1
          have b0x : pw.cell? ⟨w.heap.size, 0, none⟩ = some (.string xn) := (HBX.out.mod MP.out fun h => h).cell 0
          have b1x : pw.cell? ⟨w.heap.size, 1, none⟩ = some (.int .i64 (xs0 : Int)) := (HBX.out.mod MP.out fun h => h).cell 1
          have b2x : pw.cell? ⟨w.heap.size, 2, none⟩ = some (.slice xA xb.length xc) := (HBX.out.mod MP.out fun h => h).cell 2
          have g0x : pw.cell? ⟨b, o + k * 3, none⟩ = some (.string yn) := MP.out.cell G0.out (fun h => h)
          have g1x : pw.cell? ⟨b, o + k * 3 + 1, none⟩ = some (.int .i64 (ysf : Int)) := MP.out.cell G1.out (fun h => h)
          have g2x : pw.cell? ⟨b, o + k * 3 + 2, none⟩ = some (.slice yA yb.length yc) := MP.out.cell G2.out (fun h => h)
          by_cases he : yn = xn
          · have hs : (yn.toList == xn.toList) = true := by rw [he]; simp
            have HE := Lib.hid he
            clear he
            go_wp2_with fail
            go_quiet (fail)
            go_wp2_with fail
            go_roundw
            case rel =>
              refine ⟨k + 1, ys ++ [⟨⟨xn, xs0, xb⟩, xA, xc⟩], true, by omega, by simp; omega, by go_num, rfl, by rw [List.length_append]; exact own_mod (S := Non) POWN.out ((Mod.refl Non pw).drewN _) (fun _ _ h => h), ⟨MP.out.drewN _, ?_, ?_⟩⟩
              · have e := HP.out.eq
                rw [HDR.out, putS_le _ _ _ HLE.out, if_pos HE.out] at e
                rw [e]; simp
              · intro z hz
                have hz' : z ∈ ys ∨ z = ⟨⟨xn, xs0, xb⟩, xA, xc⟩ ∨ z = ⟨⟨yn, ysf, yb⟩, yA, yc⟩ := by (try simp at hz); rcases hz with h | h <;> simp [h]
                rcases hz' with hz | hz | hz
                · exact HP.out.mem z hz
                · exact .inl hz
                · rw [hz]; exact .inr (List.mem_of_getElem? HY.out)
            case measure => simp [intOf]; omega
          · have hs : (yn.toList == xn.toList) = false := beq_eq_false_iff_ne.2 fun e => he (keyF_inj (by rwa [ByteArray.toList_eq, ByteArray.toList_eq] at e))
            have HE := Lib.hid he
            clear he
            go_wp2_with fail
            go_quiet (fail)
            go_wp2_with (at_builtin
                         refine wpList_appF _ rfl (.tmp 46) (.tmp 54) rfl w0.heap.size (.slice pA (ys.length + 1) pc) (ys.length + 1) (ys ++ [⟨⟨xn, xs0, xb⟩, xA, xc⟩]) rfl ((own_mod (S := Non) POWN.out ((Mod.refl Non pw).drewN _) (fun _ _ h => h)).alloc _) _ 1 1 [⟨⟨yn, ysf, yb⟩, yA, yc⟩] rfl (one_file _ _ ⟨⟨yn, ysf, yb⟩, yA, yc⟩) (by simp; omega) (by simp; omega) ?_
                         intro qA qc qw qhc qhcm qown qg qat)
            have MQ : Hid (Mod Non w0 qw) := ((MP.out.drewN _).alloc _).trans (Mod.of_grown (S := fun g => (Value.slice pA (ys.length + 1) pc).ownBlock = some g) qg fun _ h => h) fun g hg => .inr (prow g hg).1
            clear qg qat
            go_roundw
            case rel =>
              refine ⟨k + 1, ys ++ [⟨⟨xn, xs0, xb⟩, xA, xc⟩] ++ [⟨⟨yn, ysf, yb⟩, yA, yc⟩], true, by omega, by simp; omega, by go_num, rfl, by simpa using qown, ⟨MQ.out, ?_, ?_⟩⟩
              · have e := HP.out.eq
                rw [HDR.out, putS_le _ _ _ HLE.out, if_neg HE.out] at e
                rw [e]; simp
              · intro z hz
                have hz' : z ∈ ys ∨ z = ⟨⟨xn, xs0, xb⟩, xA, xc⟩ ∨ z = ⟨⟨yn, ysf, yb⟩, yA, yc⟩ := by (try simp at hz); rcases hz with h | h | h <;> simp [h]
                rcases hz' with hz | hz | hz
                · exact HP.out.mem z hz
                · exact .inl hz
                · rw [hz]; exact .inr (List.mem_of_getElem? HY.out)
            case measure => simp [intOf]; omega
        · have hbl : Op.bytesLess yn.toList xn.toList = true := by rw [bl_name]; exact decide_eq_true (List.not_le.1 hle)
          have hs : (yn.toList == xn.toList) = false := beq_eq_false_iff_ne.2 fun e => hle (by show xn.data.toList ≤ yn.data.toList; rw [← ByteArray.toList_eq, ← ByteArray.toList_eq, e]; exact List.le_refl _)
          have HLE := Lib.hid hle
          clear hle
          go_wp2_with fail
          go_quiet (fail)
          clear hbl
          go_wp2_with fail
          go_quiet (fail)
          go_wp2_with (at_builtin
                       refine wpList_appF _ rfl (.tmp 46) (.tmp 54) rfl w0.heap.size (.slice Av ys.length cv) ys.length ys rfl ((own_mod (S := Non) HOWN.out ((Mod.refl Non wr).drewN _) (fun _ _ h => h)).alloc _) _ 1 1 [⟨⟨yn, ysf, yb⟩, yA, yc⟩] rfl (one_file _ _ ⟨⟨yn, ysf, yb⟩, yA, yc⟩) (by simp; omega) (by simp; omega) ?_
                       intro qA qc qw qhc qhcm qown qg qat)
          have MQ : Hid (Mod Non w0 qw) := ((HP.out.mod.drewN _).alloc _).trans (Mod.of_grown (S := fun g => (Value.slice Av ys.length cv).ownBlock = some g) qg fun _ h => h) fun g hg => .inr (hrow g hg).1
          clear qg qat
          go_roundw
          case rel =>
            refine ⟨k + 1, ys ++ [⟨⟨yn, ysf, yb⟩, yA, yc⟩], false, by omega, by simp; omega, by go_num, rfl, by simpa using qown, ⟨MQ.out, ?_, ?_⟩⟩
            · have e := HP.out.eq
              rw [HDR.out, putS_gt _ _ _ HLE.out] at e
              rw [e]; simp
            · intro z hz
              have hz' : z ∈ ys ∨ z = ⟨⟨xn, xs0, xb⟩, xA, xc⟩ ∨ z = ⟨⟨yn, ysf, yb⟩, yA, yc⟩ := by (try simp at hz); rcases hz with h | h <;> simp [h]
              rcases hz' with hz | hz | hz
              · exact HP.out.mem z hz
              · exact .inl hz
              · rw [hz]; exact .inr (List.mem_of_getElem? HY.out)
          case measure => simp [intOf]; omega
      | true =>
        simp only [Bool.toNat_true] at hyl
        go_wp2_with fail
        go_quiet (fail)
        by_cases he : yn = xn
        · have hs : (yn.toList == xn.toList) = true := by rw [he]; simp
          have HE := Lib.hid he
          clear he
          go_wp2_with fail
          go_quiet (fail)
          go_wp2_with fail
          go_roundw
          case rel =>
            refine ⟨k + 1, ys, true, by omega, by simp; omega, by go_num, rfl, own_mod (S := Non) HOWN.out ((Mod.refl Non wr).drewN _) (fun _ _ h => h), ⟨HP.out.mod.drewN _, ?_, ?_⟩⟩
            · have e := HP.out.eq
              rw [HDR.out, putS_tr, if_pos HE.out] at e
              rw [e]; simp
            · intro z hz
              have hz' : z ∈ ys ∨ z = ⟨⟨xn, xs0, xb⟩, xA, xc⟩ ∨ z = ⟨⟨yn, ysf, yb⟩, yA, yc⟩ := by (try simp at hz); exact .inl hz
              rcases hz' with hz | hz | hz
              · exact HP.out.mem z hz
              · exact .inl hz
              · rw [hz]; exact .inr (List.mem_of_getElem? HY.out)
          case measure => simp [intOf]; omega
        · have hs : (yn.toList == xn.toList) = false := beq_eq_false_iff_ne.2 fun e => he (keyF_inj (by rwa [ByteArray.toList_eq, ByteArray.toList_eq] at e))
          have HE := Lib.hid he
          clear he
          go_wp2_with fail
          go_quiet (fail)
          go_wp2_with (at_builtin
                       refine wpList_appF _ rfl (.tmp 46) (.tmp 54) rfl w0.heap.size (.slice Av ys.length cv) ys.length ys rfl ((own_mod (S := Non) HOWN.out ((Mod.refl Non wr).drewN _) (fun _ _ h => h)).alloc _) _ 1 1 [⟨⟨yn, ysf, yb⟩, yA, yc⟩] rfl (one_file _ _ ⟨⟨yn, ysf, yb⟩, yA, yc⟩) (by simp; omega) (by simp; omega) ?_
                       intro qA qc qw qhc qhcm qown qg qat)
          have MQ : Hid (Mod Non w0 qw) := ((HP.out.mod.drewN _).alloc _).trans (Mod.of_grown (S := fun g => (Value.slice Av ys.length cv).ownBlock = some g) qg fun _ h => h) fun g hg => .inr (hrow g hg).1
          clear qg qat
          go_roundw
          case rel =>
            refine ⟨k + 1, ys ++ [⟨⟨yn, ysf, yb⟩, yA, yc⟩], true, by omega, by simp; omega, by go_num, rfl, by simpa using qown, ⟨MQ.out, ?_, ?_⟩⟩
            · have e := HP.out.eq
              rw [HDR.out, putS_tr, if_neg HE.out] at e
              rw [e]; simp
            · intro z hz
              have hz' : z ∈ ys ∨ z = ⟨⟨xn, xs0, xb⟩, xA, xc⟩ ∨ z = ⟨⟨yn, ysf, yb⟩, yA, yc⟩ := by (try simp at hz); rcases hz with h | h <;> simp [h]
              rcases hz' with hz | hz | hz
              · exact HP.out.mem z hz
              · exact .inl hz
              · rw [hz]; exact .inr (List.mem_of_getElem? HY.out)
          case measure => simp [intOf]; omega
    · obtain rfl : k = n := by omega
      have hdrop : (xs.map (·.f)).drop k = [] := List.drop_eq_nil_of_le (by simp [HN.out])
      have HEQ : Hid (putS ⟨xn, xs0, xb⟩ false (xs.map (·.f)) = ys.map (·.f) ++ if done then [] else [⟨xn, xs0, xb⟩]) := by
        show _ = _
        rw [HP.out.eq, hdrop]
        rfl
      clear hdrop
      cases done with
      | true =>
        simp only [Bool.toNat_true] at hyl
        have hblk := (HR0.out.mod0 HP.out.mod).blk
        have c1x : wr.cell? ⟨r, 1, none⟩ = some (.slice A k c) := hblk.cell 1
        have f1x := hblk.frozen 1
        have HBLK := Lib.hid hblk
        clear hblk
        go_wp2_with fail
        go_end0
        refine ⟨rfl, put_end (x := ⟨⟨xn, xs0, xb⟩, xA, xc⟩) rfl HH1.out nd hE hBE hEl HM0.out HP.out.mod HBLK.out HOWN.out ?_ ?_ HHX.out hx1 hx2 hxr hrl⟩
        · rw [HEQ.out]; simp
        · exact fun z hz => HP.out.mem z hz
      | false =>
        simp only [Bool.toNat_false, Nat.add_zero] at hyl
        have hblk := (HR0.out.mod0 HP.out.mod).blk
        have c1x : wr.cell? ⟨r, 1, none⟩ = some (.slice A k c) := hblk.cell 1
        have b0r : wr.cell? ⟨w.heap.size, 0, none⟩ = some (.string xn) := (HBX.out.mod HP.out.mod fun h => h).cell 0
        have b1r : wr.cell? ⟨w.heap.size, 1, none⟩ = some (.int .i64 (xs0 : Int)) := (HBX.out.mod HP.out.mod fun h => h).cell 1
        have b2r : wr.cell? ⟨w.heap.size, 2, none⟩ = some (.slice xA xb.length xc) := (HBX.out.mod HP.out.mod fun h => h).cell 2
        clear hblk
        go_wp2_with (at_builtin
                     refine wpList_appF _ rfl (.tmp 58) (.tmp 60) rfl w0.heap.size (.slice Av ys.length cv) ys.length ys rfl (HOWN.out.alloc _) _ 1 1 [⟨⟨xn, xs0, xb⟩, xA, xc⟩] rfl (one_file _ _ ⟨⟨xn, xs0, xb⟩, xA, xc⟩) (by omega) (by simp; omega) ?_
                     intro pA pc pw phc phcm pown pg pat
                     have MP : Hid (Mod Non w0 pw) := (HP.out.mod.alloc _).trans (Mod.of_grown (S := fun g => (Value.slice Av ys.length cv).ownBlock = some g) pg fun _ h => h) fun g hg => .inr (hrow g hg).1
                     have hblk2 := (HR0.out.mod0 MP.out).blk
                     have c1p : pw.cell? ⟨r, 1, none⟩ = some (.slice A k c) := hblk2.cell 1
                     have f1p := hblk2.frozen 1
                     have HBLK := Lib.hid hblk2
                     have POWN := Lib.hid pown
                     clear hblk2 pg pat pown c1x b0r b1r b2r)
        go_end0
        refine ⟨rfl, put_end (x := ⟨⟨xn, xs0, xb⟩, xA, xc⟩) (ys := ys ++ [⟨⟨xn, xs0, xb⟩, xA, xc⟩]) (n' := ys.length + 1) (by simp) HH1.out nd hE hBE hEl HM0.out MP.out HBLK.out POWN.out ?_ ?_ HHX.out hx1 hx2 hxr hrl⟩
        · rw [HEQ.out]; simp
        · intro z hz
          rcases List.mem_append.1 hz with hz | hz
          · exact HP.out.mem z hz
          · simp only [List.mem_singleton] at hz
            exact .inl hz

end Go.Proofs.YtdpjnpjmokncdaaGreatDoor

/- The reference's disk: drop. -/
namespace Go.Proofs.YtdpjnpjmokncdaaGreatDoor
open Go.RowKit

/-- the end of drop: the new row in the place of the old one. -/
theorem drop_end {k : ByteArray} {E B : Nat → Prop} {r : Nat} {D : Dk} {w wr : World} {A : Option Addr} {n c : Nat} {xs ys : List Fc} {Av : Option Addr} {cv n' : Nat} (h1 : RkAt w B r D A n c xs) (nd : (D.files.map (·.name)).Nodup)
    (hE : E r) (hBE : ∀ k, B k → E k) (hEl : ∀ k, E k → k < w.heap.size) (m1 : Mod Non w wr) (hb : Blk wr r 72 #[.int .i64 D.n, .slice A n c, .int .i64 D.done, .int .i64 D.left, .bool D.off])
    (hown : wr.ownsRow w.heap.size 67 3 (.slice Av n' cv) n' (flat3 ys)) (hs : dropS k (xs.map (·.f)) = ys.map (·.f)) (hmem : ∀ y ∈ ys, y ∈ xs) (hr : r < w.heap.size) :
    ∃ E', RkIs (wr.setCell ⟨r, 1, none⟩ (.slice Av n' cv)) E' r { D with files := delF D.files k } ∧ Mod (fun k => k = r) w (wr.setCell ⟨r, 1, none⟩ (.slice Av n' cv)) ∧ ∀ k, E' k → E k ∨ w.heap.size ≤ k := by
  have hm : Mod (fun k => k = r) wr (wr.setCell ⟨r, 1, none⟩ (.slice Av n' cv)) := (Mod.refl (fun k => k = r) wr).set1 1 _
  have ho := own_slice hown
  obtain ⟨A', c', he, hc1, hc2⟩ := ho
  injection he with _ _ he
  subst he
  have hs1 := m1.size
  have hmx : maxLen = 9223372036854775807 := rfl
  have hbase := own_base hown
  have hrd := Rd.of_own3 hown
  have hsz : (wr.setCell ⟨r, 1, none⟩ (.slice Av n' cv)).heap.size = wr.heap.size := by simp [World.setCell]
  refine ⟨fun k => E k ∨ (w.heap.size ≤ k ∧ k < wr.heap.size), ⟨fun k => B k ∨ (w.heap.size ≤ k ∧ k < wr.heap.size), Av, n', cv, ys, ⟨hb.set_ 1 _, ?_, hc1, by omega, ?_, ?_, ?_, ?_⟩, .inl hE, fun k hk => hk.imp (hBE k) id, ?_⟩, (m1.non.trans hm fun k hk => .inl hk), fun k hk => hk.imp id fun h => h.1⟩
  · refine hrd.mod hm fun _ b hbk e => ?_
    have := hbase b hbk
    omega
  · show SortedOf (delF D.files k) _
    rw [← hs]
    exact h1.fs.del nd k
  · intro y hy
    obtain ⟨a1, a2, a3, a4⟩ := h1.byt y (hmem y hy)
    exact ⟨(a1.mod0 m1).mod hm fun _ b hbk e => h1.rB (e ▸ a4 b hbk), a2, a3, fun b hbk => .inl (a4 b hbk)⟩
  · intro b hbk
    have h3 := hbase b hbk
    refine .inr ⟨by omega, ?_⟩
    exact (hown.lt b (by rw [slice_blk]; exact hbk)).2
  · rintro (h | h)
    · exact h1.rB h
    · omega
  · intro k hk
    rw [hsz]
    rcases hk with hk | hk
    · have := hEl k hk; omega
    · exact hk.2

/-- between two rounds of drop. -/
structure DrM (w : World) (nm : ByteArray) (xs ys : List Fc) (k : Nat) (wr : World) : Prop where
  mod : Mod Non w wr
  eq : dropS nm ((xs.map (·.f)).take k) = ys.map (·.f)
  mem : ∀ y ∈ ys, y ∈ xs
theorem dropS_snoc {nm : ByteArray} {L : List Fl} {k : Nat} {f : Fl} (h : L[k]? = some f) : dropS nm (L.take (k + 1)) = dropS nm (L.take k) ++ if f.name = nm then [] else [f] := by
  rw [take_snoc' L k f h]
  unfold dropS
  rw [List.filter_append]
  by_cases he : f.name = nm
  · simp [he]
  · simp [he]

set_option maxRecDepth 100000 in
set_option maxHeartbeats 2000000 in
theorem dropR_any (nm : ByteArray) (E : Nat → Prop) (r : Nat) (D : Dk) (w : World) (h : RkIs w E r D) (nd : (D.files.map (·.name)).Nodup) (hl : D.files.length ≤ 100000000000) :
    Calls Tryz.prog 155 #[.pointer (some ⟨r, 0, none⟩), .string nm] w (RkPost E r { D with files := delF D.files nm } (.tuple #[]) w) := by
  obtain ⟨B, A, n, c, xs, h1, hE, hBE, hEl⟩ := h
  have hlen : xs.length = D.files.length := by have := h1.fs.perm.length_eq; simpa using this
  have hn := h1.len
  have hnc := h1.nc
  have hcm := h1.cm
  have hrl := h1.blk.lt
  have c1w : w.cell? ⟨r, 1, none⟩ = some (.slice A n c) := h1.blk.cell 1
  have hn2 : n ≤ 100000000000 := by omega
  have HN := Lib.hid hn
  have HR0 := Lib.hid h1
  clear hlen hn h1
  go_enter Tryz.func155, Tryz.ntmps155
  go_wp2_with fail
  clear c1w
  go_loopw [4, 5] (fun v i wr => ∃ (k : Nat) (ys : List Fc), k ≤ n ∧ ys.length ≤ k ∧ i = .int .i64 k ∧ wr.ownsRow w.heap.size 67 3 v ys.length (flat3 ys) ∧ Hid (DrM w nm xs ys k wr)) (fun _ i _ => n - (intOf i).toNat)
  case atStart => exact ⟨0, [], Nat.zero_le _, by simp, rfl, World.ownsRow_nil _ _ _ _, ⟨Mod.refl _ _, by simp [dropS], by simp⟩⟩
  case round =>
    obtain ⟨k, ys, hk, hyl, rfl, hown, HP⟩ := hrel
    obtain ⟨Av, cv, rfl, hcv, hcv2⟩ := own_slice hown
    have hrw : w.heap.size ≤ wr.heap.size := HP.out.mod.size
    have HOWN := Lib.hid hown
    have hrow := hown.lt
    clear hown
    by_cases hlt : k < n
    · obtain ⟨b, o, y, rfl, hy, g0, g1, g2⟩ := (HR0.out.mod0 HP.out.mod).row.file hlt
      have HY := Lib.hid hy
      obtain ⟨⟨yn, ysf, yb⟩, yA, yc⟩ := y
      simp only at g0 g1 g2
      have i1 : (0 : Int) ≤ (k : Int) := by omega
      have i2 : (k : Int) < (n : Int) := by omega
      have HSN := Lib.hid (dropS_snoc (nm := nm) (L := xs.map (·.f)) (k := k) (f := ⟨yn, ysf, yb⟩) (by rw [List.getElem?_map, HY.out]; rfl))
      have c1x : wr.cell? ⟨r, 1, none⟩ = some (.slice (some ⟨b, o, none⟩) n c) := (HR0.out.mod0 HP.out.mod).blk.cell 1
      clear hy
      by_cases he : yn = nm
      · have hs : (yn.toList == nm.toList) = true := by rw [he]; simp
        have HE := Lib.hid he
        clear he
        go_wp2_with fail
        go_roundw
        case rel =>
          refine ⟨k + 1, ys, by omega, by omega, by go_num, HOWN.out, ⟨HP.out.mod, ?_, HP.out.mem⟩⟩
          rw [HSN.out, HP.out.eq, if_pos (show yn = nm from HE.out), List.append_nil]
        case measure => simp [intOf]; omega
      · have hs : (yn.toList == nm.toList) = false := beq_eq_false_iff_ne.2 fun e => he (keyF_inj (by rwa [ByteArray.toList_eq, ByteArray.toList_eq] at e))
        have HE := Lib.hid he
        clear he
        go_wp2_with (at_builtin
                     refine wpList_appF _ rfl (.tmp 25) (.tmp 33) rfl w.heap.size (.slice Av ys.length cv) ys.length ys rfl (HOWN.out.alloc _) _ 1 1 [⟨⟨yn, ysf, yb⟩, yA, yc⟩] rfl (one_file _ _ ⟨⟨yn, ysf, yb⟩, yA, yc⟩) (by omega) (by simp; omega) ?_
                     intro qA qc qw qhc qhcm qown qg qat)
        have MQ : Hid (Mod Non w qw) := (HP.out.mod.alloc _).trans (Mod.of_grown (S := fun g => (Value.slice Av ys.length cv).ownBlock = some g) qg fun _ h => h) fun g hg => .inr (hrow g hg).1
        clear qg qat
        go_roundw
        case rel =>
          refine ⟨k + 1, ys ++ [⟨⟨yn, ysf, yb⟩, yA, yc⟩], by omega, by simp; omega, by go_num, by simpa using qown, ⟨MQ.out, ?_, ?_⟩⟩
          · rw [HSN.out, HP.out.eq, if_neg (show ¬ yn = nm from HE.out)]; simp
          · intro z hz
            rcases List.mem_append.1 hz with hz | hz
            · exact HP.out.mem z hz
            · simp only [List.mem_singleton] at hz
              rw [hz]; exact List.mem_of_getElem? HY.out
        case measure => simp [intOf]; omega
    · obtain rfl : k = n := by omega
      have hblk := (HR0.out.mod0 HP.out.mod).blk
      have c1x : wr.cell? ⟨r, 1, none⟩ = some (.slice A k c) := hblk.cell 1
      have f1x := hblk.frozen 1
      have HBLK := Lib.hid hblk
      clear hblk
      go_wp2_with fail
      go_end0
      refine ⟨rfl, drop_end (k := nm) HR0.out nd hE hBE hEl HP.out.mod HBLK.out HOWN.out ?_ HP.out.mem hrl⟩
      have := HP.out.eq
      rwa [List.take_of_length_le (by simp [HN.out])] at this

end Go.Proofs.YtdpjnpjmokncdaaGreatDoor

/- The reference's disk: Read, Remove. -/
namespace Go.Proofs.YtdpjnpjmokncdaaGreatDoor
open Go.RowKit

theorem own_empty (w : World) (e : TypeId) (s : Nat) : (w.alloc (.cells #[] e)).ownsRow w.heap.size e s (.slice (some ⟨w.heap.size, 0, none⟩) 0 0) 0 [] :=
  ⟨by simp, .inr ⟨w.heap.size, 0, #[], rfl, Nat.le_refl _, heap_alloc_new w _, Nat.le_refl _, by simp [maxLen], by simp, by simp⟩⟩
theorem RkIs.like {w : World} {E : Nat → Prop} {r : Nat} {D D' : Dk} (h : RkIs w E r D) (h1 : D'.n = D.n) (h2 : D'.files = D.files) (h3 : D'.done = D.done) (h4 : D'.left = D.left) (h5 : D'.off = D.off) : RkIs w E r D' := by
  obtain ⟨B, A, n, c, xs, a, b⟩ := h
  exact ⟨B, A, n, c, xs, ⟨by rw [h1, h3, h4, h5]; exact a.blk, a.row, a.nc, a.cm, by rw [h2]; exact a.fs, a.byt, a.rowB, a.rB⟩, b⟩
theorem find_len {D : Dk} (ok : DkOk D) {nm : ByteArray} {f : Fl} (hf : findF D.files nm = some f) : f.bytes.length ≤ 1099511627776 ∧ costF f ≤ D.used := by
  have hc := find_cost hf
  have h1 := ok.us; have h2 := ok.u1; have h3 := ok.n1
  unfold costF at hc ⊢
  omega

set_option maxRecDepth 100000 in
set_option maxHeartbeats 1000000 in
theorem readR_any (nm : ByteArray) (E : Nat → Prop) (r : Nat) (D : Dk) (w : World) (h : RkIs w E r D) (ok : DkOk D) (hs : nm.size ≤ 9223372036854775807) :
    Calls Tryz.prog 105 #[.pointer (some ⟨r, 0, none⟩), .string nm] w (RdPost D nm w) := by
  obtain ⟨B, A, n, c, xs, h1, hE, hBE, hEl⟩ := h
  by_cases hn : named nm = true
  · have HN := Lib.hid hn
    have HC := Lib.hid (at_any nm B r D A n c xs w h1)
    have HF := Lib.hid (h1.fs.find ok.nd nm)
    have c1 : w.cell? ⟨r, 1, none⟩ = some (.slice A n c) := h1.blk.cell 1
    have hnc := h1.nc
    have hcm := h1.cm
    have hrl := h1.blk.lt
    have HA := Lib.hid h1
    have HOK := Lib.hid ok
    clear hn h1 ok
    go_enter Tryz.func105, Tryz.ntmps105
    go_wp2_with fail
    refine (namedR_any nm _ hs).mono ?_
    rw [HN.out]
    rintro e w1 ⟨rfl, rfl⟩
    go_wp2_with fail
    refine HC.out.mono ?_
    rintro e w1 ⟨rfl, hp⟩
    rcases hp with ⟨hf, rfl⟩ | ⟨i, f, hi, hf, hnm, rfl⟩
    · rw [HF.out] at hf
      have HN2 := Lib.hid hf
      clear hf
      go_wp2_with fail
      go_ret2
      show RdPost D nm w _ _
      unfold RdPost
      rw [if_pos HN.out, HN2.out]
      exact ⟨rfl, Mod.refl _ _⟩
    · rw [HF.out] at hf
      have hfl := (find_len HOK.out hf).1
      have hil : i < n := by
        have := (List.getElem?_eq_some_iff.1 hi).1
        have h2 := HA.out.len
        simp at this; omega
      obtain ⟨b, o, y, rfl, hy, g0, g1, g2⟩ := HA.out.row.file hil
      have hyf : y.f = f := by rw [List.getElem?_map, hy] at hi; simpa using hi
      obtain ⟨hyr, hy1, hy2, _⟩ := HA.out.byt y (List.mem_of_getElem? hy)
      rw [hyf] at g2 hyr hy1
      have HYR := Lib.hid hyr
      have HFF := Lib.hid hf
      have hbl : b < w.heap.size := World.block_lt_of_cell? w _ g2
      have i0 : (0 : Int) ≤ (i : Int) := by omega
      have i1 : (i : Int) < (n : Int) := by omega
      clear hi hf hnm hy g0 g1 hyr hyf
      go_wp2_with (at_builtin
                   refine wpList_app8 bt _ rfl (.tmp 15) (.tmp 23) rfl w.heap.size (.slice (some ⟨w.heap.size, 0, none⟩) 0 0) 0 [] rfl (own_empty w 5 1) y.A f.bytes.length y.c f.bytes rfl (HYR.out.alloc _) f.bytes.length (by omega) f.bytes rfl (by omega) (by simp) ?_
                   intro pA pc pw phc pown pg pat)
      go_ret2
      have hm : Mod Non w pw := (((Mod.refl Non w).alloc _).trans (Mod.of_grown (S := fun g => (Value.slice (some ⟨w.heap.size, 0, none⟩) 0 0).ownBlock = some g) pg fun _ h => h) fun g hg => .inr (by simp [Value.ownBlock] at hg; omega))
      show RdPost D nm w _ _
      unfold RdPost
      rw [if_pos HN.out, HFF.out]
      exact ⟨pA, pc, rfl, pown, hm⟩
  · have hn' : named nm = false := by simpa using hn
    have HN := Lib.hid hn'
    have HP : Hid (∀ e w', RdPost D nm w e w' ↔ (e = .returned (.tuple #[.slice none 0 0, .int .i64 1]) ∧ Mod Non w w')) := fun e w' => by unfold RdPost; rw [if_neg hn]
    clear hn hn' h1 ok
    go_enter Tryz.func105, Tryz.ntmps105
    go_wp2_with fail
    refine (namedR_any nm _ hs).mono ?_
    rw [HN.out]
    rintro e w1 ⟨rfl, rfl⟩
    go_wp2_with fail
    go_ret2
    exact (HP.out _ _).2 ⟨rfl, Mod.refl _ _⟩

theorem RkIs.of_at {w w' : World} {B E : Nat → Prop} {r n c : Nat} {D : Dk} {A : Option Addr} {xs : List Fc} (h : RkAt w' B r D A n c xs) (hE : E r) (hBE : ∀ k, B k → E k) (hEl : ∀ k, E k → k < w.heap.size) (hm : Mod (fun k => k = r) w w') : RkIs w' E r D :=
  ⟨B, A, n, c, xs, h, hE, hBE, fun k hk => Nat.lt_of_lt_of_le (hEl k hk) hm.size⟩

set_option maxRecDepth 100000 in
set_option maxHeartbeats 1000000 in
theorem removeR_any (nm : ByteArray) (E : Nat → Prop) (r : Nat) (D : Dk) (w : World) (h : RkIs w E r D) (ok : DkOk D) (hs : nm.size ≤ 9223372036854775807) :
    Calls Tryz.prog 149 #[.pointer (some ⟨r, 0, none⟩), .string nm] w (RkPost E r (removeD D nm) (.int .i64 (removeE D nm)) w) := by
  have HH := Lib.hid h
  have hfl := files_len ok
  obtain ⟨B, A, n, c, xs, h1, hE, hBE, hEl⟩ := h
  have HA := Lib.hid h1
  have HOK := Lib.hid ok
  have l0 := ok.l0
  have l1 := ok.l1
  obtain ⟨nb, hnb⟩ : ∃ nb, named nm = nb := ⟨_, rfl⟩
  have HN := Lib.hid hnb
  have HR := Lib.hid (rightR_any nb B r D A n c xs w h1)
  obtain ⟨D', hD'⟩ : ∃ D', removeD D nm = D' := ⟨_, rfl⟩
  obtain ⟨E', hE'⟩ : ∃ E', removeE D nm = E' := ⟨_, rfl⟩
  rw [hD', hE']
  have HD := Lib.hid hD'
  have HEE := Lib.hid hE'
  clear h1 ok hnb hD' hE'
  by_cases hgo : nb = true ∧ D.off = false
  · obtain ⟨rfl, hoff⟩ := hgo
    have HRV : Hid (rightE true D = 0) := by show _ = _; unfold rightE; rw [hoff]; simp
    have HOFF := Lib.hid hoff
    clear hoff
    go_enter Tryz.func149, Tryz.ntmps149
    go_wp2_with fail
    refine (namedR_any nm _ hs).mono ?_
    rw [HN.out]
    rintro e w1 ⟨rfl, rfl⟩
    go_wp2_with fail
    refine HR.out.mono ?_
    rw [HRV.out]
    rintro e w1 ⟨rfl, rfl⟩
    go_wp2_with fail
    refine (hasR_any nm E r D _ HH.out HOK.out.nd).mono ?_
    cases hf : findF D.files nm with
    | none =>
      have HV : Hid (D' = D ∧ E' = 3) := by
        show _ ∧ _
        rw [← HD.out, ← HEE.out]
        unfold removeD removeE
        rw [if_pos ⟨HN.out, HOFF.out⟩, if_pos HN.out, HOFF.out, hf]
        exact ⟨rfl, rfl⟩
      clear hf
      rintro e w1 ⟨rfl, rfl⟩
      go_wp2_with fail
      go_ret
      exact ⟨by rw [HV.out.2]; rfl, E, by rw [HV.out.1]; exact HH.out, Mod.refl _ _, fun k hk => .inl hk⟩
    | some f =>
      have hcost := (find_len HOK.out hf).2
      have u1 := HOK.out.u1
      have hc0 : 0 ≤ costF f := by unfold costF; omega
      have HS := Lib.hid (stepR_any B r D A n c xs w HA.out l0 l1)
      by_cases hz : D.left = 0
      · have HV : Hid (D' = stepD D ∧ E' = 5) := by
          show _ ∧ _
          have e5 : spendE D (-costF f) = 5 := by unfold spendE; rw [if_neg (by omega), if_pos hz]
          have h6 : spendD D (-costF f) = stepD D := by unfold spendD stepD; rw [if_neg (by omega), if_pos hz, if_pos hz]
          rw [← HD.out, ← HEE.out]
          constructor
          · unfold removeD
            rw [if_pos ⟨HN.out, HOFF.out⟩, hf]
            show (if spendE D (-costF f) = 0 then _ else _) = _
            rw [if_neg (by omega), h6]
          · unfold removeE
            rw [if_pos HN.out, if_neg (by rw [HOFF.out]; simp), hf]
            exact e5
        have hzb : decide (D.left ≠ 0) = false := by simp [hz]
        have HZ := Lib.hid hzb
        clear hf hzb hz
        rintro e w1 ⟨rfl, rfl⟩
        go_wp2_with fail
        refine HS.out.mono ?_
        rw [HZ.out]
        rintro e w2 ⟨rfl, hA2, hm2⟩
        have HA2 := Lib.hid hA2
        have HM2 := Lib.hid hm2
        clear hA2 hm2
        go_wp2_with fail
        go_ret
        exact ⟨by rw [HV.out.2]; rfl, E, by rw [HV.out.1]; exact RkIs.of_at HA2.out hE hBE hEl HM2.out, HM2.out, fun k hk => .inl hk⟩
      · have HV : Hid (E' = 0 ∧ D'.n = D.n ∧ D'.files = delF D.files nm ∧ D'.done = (stepD D).done ∧ D'.left = (stepD D).left ∧ D'.off = (stepD D).off) := by
          have e5 : spendE D (-costF f) = 0 := by unfold spendE; rw [if_neg (by omega), if_neg hz]
          have h7 : removeD D nm = { spendD D (-costF f) with files := delF D.files nm } := by
            unfold removeD
            rw [if_pos ⟨HN.out, HOFF.out⟩, hf]
            show (if spendE D (-costF f) = 0 then _ else _) = _
            rw [if_pos e5]
          have h8 : removeE D nm = 0 := by
            unfold removeE
            rw [if_pos HN.out, if_neg (by rw [HOFF.out]; simp), hf]
            exact e5
          have h9 : spendD D (-costF f) = { D with left := max (D.left - 1) (-1), done := wrap64 (D.done + 1), used := D.used + -costF f } := by unfold spendD; rw [if_neg (by omega), if_neg hz]
          have h10 : stepD D = { D with left := max (D.left - 1) (-1), done := wrap64 (D.done + 1) } := by unfold stepD; rw [if_neg hz]
          refine ⟨by rw [← HEE.out, h8], ?_⟩
          rw [← HD.out, h7, h9, h10]
          exact ⟨rfl, rfl, rfl, rfl, rfl⟩
        have hzb : decide (D.left ≠ 0) = true := by simp [hz]
        have HZ := Lib.hid hzb
        have HSF : Hid ((stepD D).files = D.files ∧ (stepD D).n = D.n) := by unfold stepD; split <;> exact ⟨rfl, rfl⟩
        clear hf hzb hz
        rintro e w1 ⟨rfl, rfl⟩
        go_wp2_with fail
        refine HS.out.mono ?_
        rw [HZ.out]
        rintro e w2 ⟨rfl, hA2, hm2⟩
        have HA2 := Lib.hid hA2
        have HM2 := Lib.hid hm2
        clear hA2 hm2
        go_wp2_with fail
        refine (dropR_any nm E r (stepD D) _ (RkIs.of_at HA2.out hE hBE hEl HM2.out) (by rw [HSF.out.1]; exact HOK.out.nd) (by rw [HSF.out.1]; omega)).mono ?_
        rintro e w3 ⟨rfl, E3, h3, hm3, hE3⟩
        have H3 := Lib.hid h3
        have HM3 := Lib.hid hm3
        have HE3 := Lib.hid hE3
        clear h3 hm3 hE3
        go_wp2_with fail
        go_ret
        refine ⟨by rw [HV.out.1]; rfl, E3, H3.out.like ?_ ?_ ?_ ?_ ?_, HM2.out.trans HM3.out fun k hk => .inl hk, fun k hk => (HE3.out k hk).imp id fun h => Nat.le_trans HM2.out.size h⟩
        · rw [HV.out.2.1]; exact HSF.out.2.symm
        · rw [HV.out.2.2.1]; show _ = delF (stepD D).files nm; rw [HSF.out.1]
        · exact HV.out.2.2.2.1
        · exact HV.out.2.2.2.2.1
        · exact HV.out.2.2.2.2.2
  · have HV : Hid (D' = D ∧ rightE nb D = E' ∧ E' ≠ 0) := by
      show _ ∧ _ ∧ _
      rw [← HD.out, ← HEE.out]
      unfold removeD removeE rightE
      rw [HN.out, if_neg hgo]
      cases nb with
      | false => simp
      | true =>
        cases hoff : D.off with
        | true => simp
        | false => exact absurd ⟨rfl, hoff⟩ hgo
    have hEb : (E' == 0) = false := by simpa using HV.out.2.2
    clear hgo
    go_enter Tryz.func149, Tryz.ntmps149
    go_wp2_with fail
    refine (namedR_any nm _ hs).mono ?_
    rw [HN.out]
    rintro e w1 ⟨rfl, rfl⟩
    go_wp2_with fail
    refine HR.out.mono ?_
    rw [HV.out.2.1]
    rintro e w1 ⟨rfl, rfl⟩
    go_wp2_with fail
    go_ret
    exact ⟨rfl, E, by rw [HV.out.1]; exact HH.out, Mod.refl _ _, fun k hk => .inl hk⟩

end Go.Proofs.YtdpjnpjmokncdaaGreatDoor
