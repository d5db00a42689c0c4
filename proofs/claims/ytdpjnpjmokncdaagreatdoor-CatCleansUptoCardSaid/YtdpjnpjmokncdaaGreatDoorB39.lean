/- package cat on the plain disk: what a Save leaves, what a Clean leaves, what is loaded. Plain. -/
import Derived.Test.YtdpjnpjmokncdaaGreatDoorB38
import Derived.Test.YtdpjnpjmokncdaaGreatDoorB27
import Derived.Test.YtdpjnpjmokncdaaGreatDoorB29
namespace Go.Proofs.YtdpjnpjmokncdaaGreatDoor
open Go.RowKit

/-- a file whose bytes are all sure. -/
def fullF (nm : ByteArray) (b : List UInt8) : Fl := ⟨nm, b.length, b⟩
/-- the version that counts is v. -/
structure Counts (fs : List Fl) (v : Vs) : Prop where
  ok : checkV v = true
  cur : findF fs curN = some (fullF curN (frameB (nB v.gen)))
  man : findF fs (foldN manP v.gen) = some (fullF (foldN manP v.gen) (frameB (encV v)))

theorem digF_nz {n : Nat} (h : n ≤ 1099511627776) : ∀ c ∈ digF 13 n, c ≠ 0 := by
  intro c hc
  have h1 := walName_nz n
  rw [walName_dig h] at h1
  exact h1 c (List.mem_append.2 (.inr hc))
theorem foldN_named {p : ByteArray} {g : Int} (hp : p.size ≤ 87) (hz : ∀ c ∈ p.data.toList, c ≠ 0) (h : 0 ≤ g ∧ g ≤ 1099511627776) : named (foldN p g) = true := by
  have hs := foldN_size (p := p) h
  have hi := indexByte_nz (foldN p g).data.toList (by
    rw [foldN_dat h]
    intro c hc
    rcases List.mem_append.1 hc with hc | hc
    · exact hz c hc
    · exact digF_nz (by omega) c hc)
  unfold named
  rw [hi]
  simp only [Bool.and_eq_true, decide_eq_true_eq]
  omega
theorem manP_named {g : Int} (h : 0 ≤ g ∧ g ≤ 1099511627776) : named (foldN manP g) = true := foldN_named (by decide) (by decide) h
theorem framedP_full {D : Dk} {nm : ByteArray} {b : List UInt8} (hn : named nm = true) (hf : findF D.files nm = some (fullF nm (frameB b))) (hb : b.length ≤ 1048576) : framedP D nm = some b := by
  have h1 := takeFrame_frameB (b := b) (most := 1073741824) (by omega) (by omega) []
  rw [List.append_nil] at h1
  unfold framedP
  rw [if_pos hn, hf]
  show (match takeFrame (frameB b) 1073741824 with | some (b, []) => some b | _ => none) = some b
  rw [h1]
theorem encV_small {v : Vs} (h : checkV v = true) : (encV v).length ≤ 1048576 := by
  have h1 := (encV_len h).1
  have h2 := (encV_len h).2
  omega
theorem Counts.load {D : Dk} {v : Vs} (h : Counts D.files v) : loadV D = some v := by
  have hg := checkV_gen h.ok
  have h1 := framedP_full curN_named h.cur (by have := nB_len v.gen; omega)
  have h2 := framedP_full (manP_named hg) h.man (encV_small h.ok)
  have h3 : takeNum (nB v.gen) = some (v.gen.toNat, []) := by
    have := takeNum_numB (n := v.gen.toNat) (by omega) []
    rw [List.append_nil] at this
    have hc : clampN v.gen = v.gen.toNat := by unfold clampN; omega
    unfold nB
    rw [hc]
    exact this
  have h4 : ((v.gen.toNat : Nat) : Int) = v.gen := Int.toNat_of_nonneg hg.1
  unfold loadV
  rw [h.cur]
  simp only
  rw [h1]
  simp only
  rw [h3]
  simp only
  rw [h4, h2]
  simp only
  rw [decV_encV h.ok]
  simp
theorem load_empty {D : Dk} (h : findF D.files curN = none) : loadV D = some zeroV := by unfold loadV; rw [h]

/-! names -/
theorem numF_size {p nm : ByteArray} {v : Int} (h : numF p nm = some v) : nm.size = p.size + 13 := by
  obtain ⟨h1, h2⟩ := numF_some h
  rw [← h2, foldN_size h1]
theorem numF_ne {p nm : ByteArray} (h : nm.size ≠ p.size + 13) : numF p nm = none := by unfold numF; rw [if_neg h]
theorem manP_size {g : Int} (h : 0 ≤ g ∧ g ≤ 1099511627776) : (foldN manP g).size = 17 := foldN_size h
theorem man_ne_cur {g : Int} (h : 0 ≤ g ∧ g ≤ 1099511627776) : foldN manP g ≠ curN := fun e => by
  have h1 := manP_size h
  rw [e] at h1
  exact absurd h1 (by decide)
theorem man_ne_shad {g : Int} (h : 0 ≤ g ∧ g ≤ 1099511627776) : foldN manP g ≠ shadN := fun e => by
  have h1 := manP_size h
  rw [e] at h1
  exact absurd h1 (by decide)
theorem shad_ne_cur : shadN ≠ curN := by decide
theorem cur_num (p : ByteArray) : numF p curN = none := numF_ne (by show (3 : Nat) ≠ _; omega)
theorem shad_num (p : ByteArray) : numF p shadN = none := numF_ne (by show (4 : Nat) ≠ _; omega)
theorem fold_other {p q : ByteArray} (hpq : p.data.toList.take 4 ≠ q.data.toList.take 4) (hp : p.size = 4) (hq : q.size = 4) {g : Int} (h : 0 ≤ g ∧ g ≤ 1099511627776) : numF q (foldN p g) = none := by
  cases hn : numF q (foldN p g) with
  | none => rfl
  | some x =>
    obtain ⟨h1, h2⟩ := numF_some hn
    exfalso
    have h3 := congrArg (fun s : ByteArray => s.data.toList.take 4) h2
    rw [foldN_dat h1, foldN_dat h] at h3
    rw [← size_dat] at hp hq
    rw [List.take_append_of_le_length (by omega), List.take_append_of_le_length (by omega)] at h3
    exact hpq h3.symm

/-! what a sweep keeps -/
theorem removeD_either {D : Dk} (ok : DkOk D) (nm k : ByteArray) : findF (removeD D nm).files k = none ∨ findF (removeD D nm).files k = findF D.files k := by
  by_cases hk : k = nm
  · rw [removeD_files]
    split
    · rw [hk]; exact .inl (findF_del_same ok.nd)
    · exact .inr rfl
  · exact .inr (removeD_other hk)
theorem sweepL_either (so : ByteArray → Bool) (k : ByteArray) : ∀ (L : List ByteArray) {D : Dk}, DkOk D → findF (sweepL so L D).1.files k = none ∨ findF (sweepL so L D).1.files k = findF D.files k
  | [], _, _ => .inr rfl
  | n :: r, D, ok => by
    rw [sweepL]
    split
    · split
      · rcases sweepL_either so k r (removeD_ok ok n) with h | h
        · exact .inl h
        · rw [h]; exact removeD_either ok n k
      · exact removeD_either ok n k
    · exact sweepL_either so k r ok
theorem sweepD_either (so : ByteArray → Bool) (k : ByteArray) {D : Dk} (ok : DkOk D) : findF (sweepD so D).1.files k = none ∨ findF (sweepD so D).1.files k = findF D.files k := sweepL_either so k _ ok

theorem soOwn_false {own k : ByteArray} (h1 : k ≠ shadN) (h2 : k ≠ own) : soOwn own k = false := by unfold soOwn; simp [h1, h2]
theorem soOld_own (own : ByteArray) : soOld own own = false := by unfold soOld; simp
theorem soOld_cur (own : ByteArray) : soOld own curN = false := by unfold soOld; rw [cur_num]; rfl

/-- how far a Save went. -/
inductive Went (D D' : Dk) (v : Vs) (e : Int) : Prop
  | back (h : e ≠ 0) (k : ∀ k, k ≠ shadN → k ≠ foldN manP v.gen → findF D'.files k = findF D.files k)
  | made (c : Counts D'.files v) (k : ∀ k, k ≠ curN → k ≠ foldN manP v.gen → findF D'.files k = none ∨ findF D'.files k = findF D.files k) (s : findF D'.files shadN = none)
      (z : e = 0 → ∀ k, k ≠ foldN manP v.gen → (numF manP k).isSome = true → findF D'.files k = none)

theorem saveT_went {D : Dk} (ok : DkOk D) {v : Vs} (hc : checkV v = true) : Went D (saveT D v).1 v (saveT D v).2 := by
  have hg := checkV_gen hc
  obtain ⟨own, hown⟩ : ∃ own, foldN manP v.gen = own := ⟨_, rfl⟩
  have hoc : own ≠ curN := by rw [← hown]; exact man_ne_cur hg
  have hos : own ≠ shadN := by rw [← hown]; exact man_ne_shad hg
  have hen : encE v = encV v := by unfold encE; rw [if_pos hc]
  have ok1 := sweepD_ok (soOwn own) ok
  have o1 : ∀ k, k ≠ shadN → k ≠ own → findF (sweepD (soOwn own) D).1.files k = findF D.files k := fun k h1 h2 => sweepD_other (soOwn_false h1 h2) D
  unfold saveT
  simp only
  rw [hown]
  split
  · rename_i e1
    have n1 : findF (sweepD (soOwn own) D).1.files own = none := sweepD_gone (by unfold soOwn; simp) ok e1
    have s1 : findF (sweepD (soOwn own) D).1.files shadN = none := sweepD_gone (by unfold soOwn; simp) ok e1
    obtain ⟨D1, hD1⟩ : ∃ D1, (sweepD (soOwn own) D).1 = D1 := ⟨_, rfl⟩
    rw [hD1] at ok1 o1 n1 s1 ⊢
    have ok2 := writeD_ok ok1 own (frameB (encE v))
    have o2 : ∀ k, k ≠ shadN → k ≠ own → findF (writeD D1 own (frameB (encE v))).1.files k = findF D.files k := fun k h1 h2 => (writeD_other h2 _).trans (o1 k h1 h2)
    split
    · rename_i e2
      have n2 := writeD_zero e2 n1 (by intro e; have := frameB_pos (encE v); rw [e] at this; simp at this)
      have s2 : findF (writeD D1 own (frameB (encE v))).1.files shadN = none := (writeD_other (fun e => hos e.symm) _).trans s1
      obtain ⟨D2, hD2⟩ : ∃ D2, (writeD D1 own (frameB (encE v))).1 = D2 := ⟨_, rfl⟩
      rw [hD2] at ok2 o2 n2 s2 ⊢
      have ok3 := writeD_ok ok2 shadN (frameB (nB v.gen))
      have o3 : ∀ k, k ≠ shadN → k ≠ own → findF (writeD D2 shadN (frameB (nB v.gen))).1.files k = findF D.files k := fun k h1 h2 => (writeD_other h1 _).trans (o2 k h1 h2)
      have n3 := (writeD_other (D := D2) hos (frameB (nB v.gen))).trans n2
      split
      · rename_i e3
        have s3 := writeD_zero e3 s2 (by intro e; have := frameB_pos (nB v.gen); rw [e] at this; simp at this)
        obtain ⟨D3, hD3⟩ : ∃ D3, (writeD D2 shadN (frameB (nB v.gen))).1 = D3 := ⟨_, rfl⟩
        rw [hD3] at ok3 o3 n3 s3 ⊢
        have ok4 := renameD_ok ok3 shadN curN
        split
        · rename_i e4
          have r4 := renameD_zero ok3 e4 shad_ne_cur s3
          obtain ⟨D4, hD4⟩ : ∃ D4, renameD D3 shadN curN = D4 := ⟨_, rfl⟩
          rw [hD4] at ok4 r4 ⊢
          have ok5 := sweepD_ok (soOld own) ok4
          have hcur : findF (sweepD (soOld own) D4).1.files curN = some (fullF curN (frameB (nB v.gen))) := by
            rw [sweepD_other (soOld_cur own), r4, if_pos rfl]; rfl
          have hman : findF (sweepD (soOld own) D4).1.files own = some (fullF own (frameB (encV v))) := by
            rw [sweepD_other (soOld_own own), r4, if_neg hoc, if_neg hos, n3, hen]; rfl
          refine .made ⟨hc, hcur, by rw [hown]; exact hman⟩ (fun k k1 k2 => ?_) (sweepD_less ok4 (by rw [r4, if_neg shad_ne_cur, if_pos rfl])) (fun e5 k k2 k3 => ?_)
          · rw [hown] at k2
            have h5 : findF D4.files k = none ∨ findF D4.files k = findF D.files k := by
              rw [r4, if_neg k1]
              split
              · exact .inl rfl
              · rename_i k3; exact .inr (o3 k k3 k2)
            rcases sweepD_either (soOld own) k ok4 with h | h
            · exact .inl h
            · rw [h]; exact h5
          · rw [hown] at k2
            exact sweepD_gone (by unfold soOld; rw [k3]; simp [k2]) ok4 e5
        · rename_i e4
          refine .back e4 fun k k1 k2 => ?_
          rw [hown] at k2
          rw [renameD_not e4]
          exact o3 k k1 k2
      · rename_i e3
        exact .back e3 fun k k1 k2 => by rw [hown] at k2; exact o3 k k1 k2
    · rename_i e2
      exact .back e2 fun k k1 k2 => by rw [hown] at k2; exact o2 k k1 k2
  · rename_i e1
    exact .back e1 fun k k1 k2 => by rw [hown] at k2; exact o1 k k1 k2
theorem saveD_went {D : Dk} (ok : DkOk D) (v : Vs) : Went D (saveD D v).1 v (saveD D v).2 := by
  unfold saveD
  split
  · rename_i h
    split
    · exact .back (show (5 : Int) ≠ 0 by omega) fun _ _ _ => rfl
    · split
      · exact .back (show (4 : Int) ≠ 0 by omega) fun _ _ _ => rfl
      · exact saveT_went ok h.1
  · exact .back (show (1 : Int) ≠ 0 by omega) fun _ _ _ => rfl

/-! a calm disk -/
theorem removeD_calm {D : Dk} (c : Calm D) (ok : DkOk D) {nm : ByteArray} (h : (findF D.files nm).isSome = true) : removeE D nm = 0 ∧ Calm (removeD D nm) ∧ (removeD D nm).n = D.n ∧ (removeD D nm).used ≤ D.used := by
  obtain ⟨f, hf⟩ := Option.isSome_iff_exists.1 h
  have hn : named nm = true := by rw [← find_name hf]; exact ok.nm f (findF_mem hf)
  have hcost : 0 ≤ costF f := by unfold costF; omega
  obtain ⟨h0, h1⟩ := spend_calm c (more := -costF f) (by have := ok.u1; omega)
  have e0 : removeE D nm = 0 := by unfold removeE; rw [if_pos hn, if_neg (by rw [c.off]; simp), hf]; exact h0
  refine ⟨e0, ?_⟩
  unfold removeD
  rw [if_pos ⟨hn, c.off⟩, hf]
  simp only
  rw [if_pos h0, h1]
  exact ⟨⟨c.off, rfl⟩, rfl, by show D.used + -costF f ≤ D.used; omega⟩
theorem sweepL_calm {so : ByteArray → Bool} : ∀ (L : List ByteArray) {D : Dk}, Calm D → DkOk D → L.Nodup → (∀ n ∈ L, (findF D.files n).isSome = true) → (sweepL so L D).2 = 0 ∧ Calm (sweepL so L D).1 ∧ (sweepL so L D).1.n = D.n ∧ (sweepL so L D).1.used ≤ D.used
  | [], D, c, _, _, _ => ⟨rfl, c, rfl, Int.le_refl _⟩
  | n :: r, D, c, ok, nd, hL => by
    obtain ⟨nd1, nd2⟩ := List.nodup_cons.1 nd
    rw [sweepL]
    split
    · obtain ⟨h0, h1, h2, h3⟩ := removeD_calm c ok (hL n (.head _))
      rw [if_pos h0]
      obtain ⟨a, b, c', d⟩ := sweepL_calm (so := so) r h1 (removeD_ok ok n) nd2 fun k hk => by
        rw [removeD_other (fun e => nd1 (by rw [← e]; exact hk))]
        exact hL k (.tail _ hk)
      exact ⟨a, b, by rw [c', h2], by omega⟩
    · exact sweepL_calm r c ok nd2 fun k hk => hL k (.tail _ hk)
theorem sweepD_calm (so : ByteArray → Bool) {D : Dk} (c : Calm D) (ok : DkOk D) : (sweepD so D).2 = 0 ∧ Calm (sweepD so D).1 ∧ (sweepD so D).1.n = D.n ∧ (sweepD so D).1.used ≤ D.used :=
  sweepL_calm _ c ok (namesD_nodup ok.nd) fun _ hn => (namesD_mem ok.nd).1 hn
theorem writeD_calm {D : Dk} (c : Calm D) {nm : ByteArray} (hn : named nm = true) (hf : findF D.files nm = none) {b : List UInt8} (hb : b ≠ []) (hr : (16 : Int) + nm.size + b.length ≤ D.n - D.used) :
    (writeD D nm b).2 = 0 ∧ Calm (writeD D nm b).1 ∧ (writeD D nm b).1.n = D.n ∧ (writeD D nm b).1.used = D.used + (16 + nm.size + b.length) := by
  obtain ⟨hfl, hp⟩ := pieces_flat _ b (Nat.le_refl _)
  have key : (appAll nm D (piecesB b)).2 = 0 ∧ Grew D (appAll nm D (piecesB b)).1 nm b (16 + nm.size + b.length) := by
    cases hpc : piecesB b with
    | nil => rw [hpc] at hfl; exact absurd hfl.symm hb
    | cons p r =>
      rw [hpc] at hfl hp
      have hlen : p.length + r.flatten.length = b.length := by rw [← hfl]; simp
      have hm : moreA D nm p.length = 16 + nm.size + p.length := by unfold moreA; rw [hf]; rfl
      obtain ⟨e0, e1⟩ := append_grew c hn (hp p (.head _)) (by rw [hm]; omega)
      rw [hm, fileB_none hf, List.nil_append] at e1
      obtain ⟨s, hs⟩ := e1.file
      obtain ⟨g0, g1⟩ := appAll_has hn r (appendD D nm p) _ e1.calm hs (fun x hx => hp x (.tail _ hx)) (by rw [e1.n, e1.used]; omega)
      rw [appAll_cons e0]
      refine ⟨g0, ?_⟩
      have := e1.trans g1
      rw [show p ++ r.flatten = b by rw [← hfl]; rfl] at this
      rw [show (16 : Int) + (nm.size : Int) + (b.length : Int) = 16 + (nm.size : Int) + (p.length : Int) + (r.flatten.length : Int) by omega]
      exact this
  obtain ⟨k0, k1⟩ := key
  obtain ⟨s, hs⟩ := k1.file
  obtain ⟨s0, s1⟩ := sync_grew k1.calm hn (by rw [k1.n, k1.used]; omega) hs
  unfold writeD
  rw [if_pos k0]
  exact ⟨s0, s1.calm, by rw [s1.n, k1.n], by rw [s1.used, k1.used]; omega⟩
theorem renameD_calm {D : Dk} (c : Calm D) {a b : ByteArray} (ha : named a = true) (hb : named b = true) {f : Fl} (hf : findF D.files a = some f) (hm : moreR D a b ≤ D.n - D.used) :
    renameE D a b = 0 ∧ Calm (renameD D a b) ∧ (renameD D a b).n = D.n := by
  obtain ⟨h0, h1⟩ := spend_calm c hm
  have e0 : renameE D a b = 0 := by unfold renameE; rw [if_pos ⟨ha, hb⟩, if_neg (by rw [c.off]; simp), hf]; exact h0
  refine ⟨e0, ?_⟩
  unfold renameD
  rw [if_pos ⟨ha, hb, c.off⟩, hf]
  simp only
  rw [if_pos h0, h1]
  exact ⟨⟨c.off, rfl⟩, rfl⟩
theorem frameB_ne (b : List UInt8) : frameB b ≠ [] := fun e => by have := frameB_pos b; rw [e] at this; simp at this
theorem saveT_calm {D : Dk} (c : Calm D) (ok : DkOk D) {v : Vs} (hc : checkV v = true) (hr : needC v ≤ D.n - D.used) : (saveT D v).2 = 0 ∧ Calm (saveT D v).1 ∧ (saveT D v).1.n = D.n := by
  have hg := checkV_gen hc
  unfold needC at hr
  rw [if_pos hc] at hr
  obtain ⟨own, hown⟩ : ∃ own, foldN manP v.gen = own := ⟨_, rfl⟩
  have hos : own ≠ shadN := by rw [← hown]; exact man_ne_shad hg
  have hon : named own = true := by rw [← hown]; exact manP_named hg
  rw [hown] at hr
  have hssz : shadN.size = 4 := rfl
  have hcsz : curN.size = 3 := rfl
  obtain ⟨z1, c1, n1, u1⟩ := sweepD_calm (soOwn own) c ok
  have ok1 := sweepD_ok (soOwn own) ok
  have g1 : findF (sweepD (soOwn own) D).1.files own = none := sweepD_gone (by unfold soOwn; simp) ok z1
  have s1 : findF (sweepD (soOwn own) D).1.files shadN = none := sweepD_gone (by unfold soOwn; simp) ok z1
  unfold saveT
  simp only
  rw [hown, if_pos z1]
  obtain ⟨D1, hD1⟩ : ∃ D1, (sweepD (soOwn own) D).1 = D1 := ⟨_, rfl⟩
  rw [hD1] at c1 n1 u1 ok1 g1 s1 ⊢
  obtain ⟨z2, c2, n2, u2⟩ := writeD_calm c1 hon g1 (frameB_ne (encE v)) (by omega)
  have ok2 := writeD_ok ok1 own (frameB (encE v))
  have s2 : findF (writeD D1 own (frameB (encE v))).1.files shadN = none := (writeD_other (fun e => hos e.symm) _).trans s1
  rw [if_pos z2]
  obtain ⟨D2, hD2⟩ : ∃ D2, (writeD D1 own (frameB (encE v))).1 = D2 := ⟨_, rfl⟩
  rw [hD2] at c2 n2 u2 ok2 s2 ⊢
  obtain ⟨z3, c3, n3, u3⟩ := writeD_calm c2 shadN_named s2 (frameB_ne (nB v.gen)) (by rw [hssz]; omega)
  have ok3 := writeD_ok ok2 shadN (frameB (nB v.gen))
  have s3 := writeD_zero z3 s2 (frameB_ne (nB v.gen))
  rw [if_pos z3]
  obtain ⟨D3, hD3⟩ : ∃ D3, (writeD D2 shadN (frameB (nB v.gen))).1 = D3 := ⟨_, rfl⟩
  rw [hD3] at c3 n3 u3 ok3 s3 ⊢
  obtain ⟨z4, c4, n4⟩ := renameD_calm c3 shadN_named curN_named s3 (by
    have hu := ok3.u1
    unfold moreR
    rw [hssz, hcsz]
    split
    · rename_i g _
      rw [if_neg shad_ne_cur]
      have : 0 ≤ costF g := by unfold costF; omega
      omega
    · omega)
  have ok4 := renameD_ok ok3 shadN curN
  rw [if_pos z4]
  obtain ⟨z5, c5, n5, _⟩ := sweepD_calm (soOld own) c4 ok4
  exact ⟨z5, c5, by rw [n5, n4, n3, n2, n1]⟩
/-- on a calm disk a Save succeeds, or turns nothing. -/
theorem saveD_calm {D : Dk} (c : Calm D) (ok : DkOk D) (v : Vs) : Calm (saveD D v).1 ∧ (saveD D v).1.n = D.n ∧ ((saveD D v).2 = 0 ∨ (saveD D v).1 = D) := by
  unfold saveD
  split
  · rename_i h
    split
    · exact ⟨c, rfl, .inr rfl⟩
    · split
      · exact ⟨c, rfl, .inr rfl⟩
      · rename_i hr
        obtain ⟨a, b, d⟩ := saveT_calm c ok h.1 (by omega)
        exact ⟨b, d, .inl a⟩
  · exact ⟨c, rfl, .inr rfl⟩

/-! crashes -/
theorem crash1_full {D : Dk} (nm : ByteArray) (p : Option Int) {k : ByteArray} {b : List UInt8} (h : findF D.files k = some (fullF k b)) : findF (crash1 D nm p).files k = some (fullF k b) := by
  unfold crash1
  split
  · exact h
  · rename_i f hf
    by_cases hk : nm = k
    · subst hk
      rw [h] at hf
      cases hf
      have hkp : keepC (fullF nm b) p = b.length := by
        unfold keepC fullF
        split
        · rfl
        · simp [Nat.mod_one]
      have := findF_put_same ⟨nm, keepC (fullF nm b) p, (fullF nm b).bytes.take (keepC (fullF nm b) p)⟩ D.files
      simp only at this ⊢
      rw [this, hkp]
      unfold fullF
      simp
    · rw [findF_put_other _ hk]
      exact h
theorem crashL_full (picks : List Int) {k : ByteArray} {b : List UInt8} : ∀ (L : List ByteArray) (i : Nat) {D : Dk}, findF D.files k = some (fullF k b) → findF (crashL picks i L D).files k = some (fullF k b)
  | [], _, _, h => h
  | n :: L, i, _, h => crashL_full picks L (i + 1) (crash1_full n _ h)
theorem crashD_full {D : Dk} (picks : List Int) (L : List ByteArray) {k : ByteArray} {b : List UInt8} (h : findF D.files k = some (fullF k b)) : findF (crashD D picks L).files k = some (fullF k b) := crashL_full picks L 0 h
theorem crashD_names (D : Dk) (picks : List Int) (L : List ByteArray) : (crashD D picks L).files.map (·.name) = D.files.map (·.name) := crashL_names picks L 0 D
theorem isSome_names {fs gs : List Fl} (h : fs.map (·.name) = gs.map (·.name)) (k : ByteArray) : (findF fs k).isSome = (findF gs k).isSome := by
  have key : ∀ fs gs : List Fl, fs.map (·.name) = gs.map (·.name) → (findF fs k).isSome = true → (findF gs k).isSome = true := by
    intro fs gs h hs
    obtain ⟨f, hf⟩ := Option.isSome_iff_exists.1 hs
    have hm : k ∈ gs.map (·.name) := by rw [← h]; exact List.mem_map.2 ⟨f, findF_mem hf, find_name hf⟩
    obtain ⟨g, hg⟩ := findF_of_name hm
    rw [hg]; rfl
  exact Bool.eq_iff_iff.2 ⟨key fs gs h, key gs fs h.symm⟩
theorem crashD_calm (D : Dk) (picks : List Int) (L : List ByteArray) : Calm (crashD D picks L) := ⟨rfl, rfl⟩
theorem Counts.crash {D : Dk} {v : Vs} (h : Counts D.files v) (picks : List Int) (L : List ByteArray) : Counts (crashD D picks L).files v := ⟨h.ok, crashD_full picks L h.cur, crashD_full picks L h.man⟩
theorem crashD_none {D : Dk} (picks : List Int) (L : List ByteArray) {k : ByteArray} (h : findF D.files k = none) : findF (crashD D picks L).files k = none := by
  have := isSome_names (crashD_names D picks L) k
  rw [h] at this
  simpa using this

/-! Clean -/
theorem cleanSo_cur (v : Vs) : cleanSo v curN = false := by
  unfold cleanSo
  rw [cur_num, cur_num, cur_num]
  rfl
theorem cleanSo_own {v : Vs} (hg : 0 ≤ v.gen ∧ v.gen ≤ 1099511627776) : cleanSo v (foldN manP v.gen) = false := by
  unfold cleanSo
  rw [numF_name hg]
  simp
theorem cleanSo_man {v : Vs} {g : Int} (hg : 0 ≤ g ∧ g ≤ 1099511627776) (h : g ≠ v.gen) : cleanSo v (foldN manP g) = true := by
  unfold cleanSo
  rw [numF_name hg]
  simp [h]
theorem cleanSo_shad (v : Vs) : cleanSo v shadN = true := by
  unfold cleanSo
  rw [shad_num, shad_num]
  simp
theorem cleanD_calm {D : Dk} (c : Calm D) (ok : DkOk D) {v : Vs} (h : checkV v = true) : (cleanD D v).2 = 0 ∧ Calm (cleanD D v).1 ∧ ∀ k, findF (cleanD D v).1.files k = if cleanSo v k = true then none else findF D.files k := by
  unfold cleanD
  rw [if_pos h]
  obtain ⟨z, c', _, _⟩ := sweepD_calm (cleanSo v) c ok
  exact ⟨z, c', sweepD_find ok z⟩
theorem Counts.clean {D : Dk} (c : Calm D) (ok : DkOk D) {v : Vs} (h : Counts D.files v) : Counts (cleanD D v).1.files v := by
  obtain ⟨_, _, hf⟩ := cleanD_calm c ok h.ok
  refine ⟨h.ok, ?_, ?_⟩
  · rw [hf, cleanSo_cur]; exact h.cur
  · rw [hf, cleanSo_own (checkV_gen h.ok)]; exact h.man

/-- two files. -/
theorem two_files {D : Dk} (ok : DkOk D) {a b : ByteArray} (hab : a ≠ b) (ha : (findF D.files a).isSome = true) (hb : (findF D.files b).isSome = true) (h : ∀ k, k ≠ a → k ≠ b → findF D.files k = none) : D.files.length = 2 := by
  have hp : (D.files.map (·.name)).Perm [a, b] := by
    refine (List.perm_ext_iff_of_nodup ok.nd (by simp [hab])).2 fun k => ?_
    have hk : k ∈ D.files.map (·.name) ↔ (findF D.files k).isSome = true := by rw [← namesD_mem ok.nd, (namesD_perm D ok.nd).mem_iff]
    rw [hk]
    simp only [List.mem_cons, List.not_mem_nil, or_false]
    constructor
    · intro hs
      refine Decidable.byContradiction fun hn => ?_
      rw [not_or] at hn
      rw [h k hn.1 hn.2] at hs
      cases hs
    · rintro (rfl | rfl)
      · exact ha
      · exact hb
  have := hp.length_eq
  simpa using this

end Go.Proofs.YtdpjnpjmokncdaaGreatDoor

/- (*Disk).Ops; a disk that is never cut, across Append and Cut. -/
namespace Go.Proofs.YtdpjnpjmokncdaaGreatDoor
open Go.RowKit

set_option maxRecDepth 100000 in
set_option maxHeartbeats 400000 in
theorem atomLoad_any (d i : Nat) (x : Int) (w : World) (hc : w.cell? ⟨d, i, none⟩ = some (.int .i64 x)) :
    Calls Tryz.prog 66 #[.pointer (some ⟨d, i, none⟩)] w fun e w' => e = .returned (.int .i64 x) ∧ w = w' := by
  have hld := run_call_load (P := Tryz.prog) Tryz.func104 (by kernel_rfl) (by kernel_rfl) (by kernel_rfl) .i64 (by kernel_rfl) hc
  go_enter Tryz.func66, Tryz.ntmps66
  go_wp2
  go_ret
  exact ⟨rfl, rfl⟩

set_option maxRecDepth 100000 in
set_option maxHeartbeats 400000 in
theorem ops_any (F : Nat → Prop) (d : Nat) (D : Dk) (w : World) (h : DiskIs w F d D) :
    Calls Tryz.prog 26 #[.pointer (some ⟨d, 0, none⟩)] w fun e w' => e = .returned (.int .i64 D.done) ∧ w = w' := by
  obtain ⟨G, m, kvs, hA, _⟩ := h
  have c2 : w.cell? ⟨d, 2, none⟩ = some (.map (some m)) := hA.blk.cell 2
  have c3 : w.cell? ⟨d, 3, none⟩ = some (.int .i64 D.done) := hA.blk.cell 3
  generalize D.done = done at *
  clear hA
  go_enter Tryz.func26, Tryz.ntmps26
  go_wp2_with (first
    | (go_at_call 48; refine (made_yes d m _ c2).mono ?_; rintro e w' ⟨rfl, rfl⟩)
    | (go_at_call 66; refine (atomLoad_any d 3 done _ c3).mono ?_; rintro e w' ⟨rfl, rfl⟩))
  go_ret
  exact ⟨rfl, rfl⟩

theorem appendD_calm {D : Dk} (c : Calm D) (nm : ByteArray) (b : List UInt8) : Calm (appendD D nm b) := by
  unfold appendD
  split
  · split
    · rename_i h0
      obtain ⟨_, _, h3⟩ := spendE_zero h0
      rw [h3]
      exact ⟨c.off, by show max (D.left - 1) (-1) = -1; rw [c.left]; rfl⟩
    · rename_i h0
      rcases spendD_not h0 with e | e
      · rw [e]; exact c
      · exfalso
        unfold spendE at h0
        unfold spendD at e
        split at h0
        · rename_i h1
          rw [if_pos h1] at e
          have := congrArg Dk.off e
          rw [c.off] at this
          simp at this
        · split at h0
          · rename_i h2
            rw [c.left] at h2
            exact absurd h2 (by omega)
          · exact h0 rfl
  · exact c

/-- the version that counts, none: the empty one. -/
def Holds (D : Dk) (v : Vs) : Prop := (v = zeroV ∧ findF D.files curN = none) ∨ Counts D.files v
theorem Holds.load {D : Dk} {v : Vs} (h : Holds D v) : loadV D = some v := by
  rcases h with ⟨rfl, h⟩ | h
  · exact load_empty h
  · exact h.load
theorem Holds.crash {D : Dk} {v : Vs} (h : Holds D v) (picks : List Int) (L : List ByteArray) : Holds (crashD D picks L) v := by
  rcases h with ⟨rfl, h⟩ | h
  · exact .inl ⟨rfl, crashD_none picks L h⟩
  · exact .inr (h.crash picks L)
theorem Holds.append {D : Dk} {v : Vs} (h : Holds D v) (b : List UInt8) : Holds (appendD D shadN b) v := by
  rcases h with ⟨rfl, h⟩ | h
  · exact .inl ⟨rfl, by rw [appendD_other (fun e => shad_ne_cur e.symm)]; exact h⟩
  · exact .inr ⟨h.ok, by rw [appendD_other (fun e => shad_ne_cur e.symm)]; exact h.cur, by rw [appendD_other (man_ne_shad (checkV_gen h.ok))]; exact h.man⟩
theorem Holds.save {D : Dk} {v u : Vs} (c : Calm D) (ok : DkOk D) (h : Holds D v) : Holds (saveD D u).1 (if (saveD D u).2 = 0 then u else v) := by
  obtain ⟨_, _, h3⟩ := saveD_calm c ok u
  split
  · rename_i h0
    rcases saveD_went ok u with ⟨hb, _⟩ | ⟨hc, _, _, _⟩
    · exact absurd h0 hb
    · exact .inr hc
  · rename_i h0
    rcases h3 with h3 | h3
    · exact absurd h3 h0
    · rw [h3]; exact h

end Go.Proofs.YtdpjnpjmokncdaaGreatDoor
