/- package cat on the plain disk: what a Save leaves, what a Clean leaves, what is loaded. Plain. -/
import Derived.Test.YtdpjnpjmokncdaaGreatDoorB42
import Derived.Test.YtdpjnpjmokncdaaGreatDoorB13
import Derived.Test.YtdpjnpjmokncdaaGreatDoorB34
namespace Go.Proofs.YtdpjnpjmokncdaaGreatDoor
open Go.RowKit

/-- a file whose bytes are all sure. -/
def fullF (nm : ByteArray) (b : List UInt8) : Fl := ⟨nm, b.length, b⟩
/-- the version that counts is v. -/
structure Counts (fs : List Fl) (v : Vs) : Prop where
  ok : checkV v = true
  cur : findF fs curN = some (fullF curN (frameB (nB v.gen)))
  man : findF fs (foldN manP v.gen) = some (fullF (foldN manP v.gen) (frameB (encV v)))

theorem digF_nz {n : Nat} (h : n ≤ 1099511627776) : ∀ c ∈ digF 13 n, c ≠ 0 := by
  intro c hc
  have h1 := walName_nz n
  rw [walName_dig h] at h1
  exact h1 c (List.mem_append.2 (.inr hc))
theorem foldN_named {p : ByteArray} {g : Int} (hp : p.size ≤ 87) (hz : ∀ c ∈ p.data.toList, c ≠ 0) (h : 0 ≤ g ∧ g ≤ 1099511627776) : named (foldN p g) = true := by
  have hs := foldN_size (p := p) h
  have hi := indexByte_nz (foldN p g).data.toList (by
    rw [foldN_dat h]
    intro c hc
    rcases List.mem_append.1 hc with hc | hc
    · exact hz c hc
    · exact digF_nz (by omega) c hc)
  unfold named
  rw [hi]
  simp only [Bool.and_eq_true, decide_eq_true_eq]
  omega
theorem manP_named {g : Int} (h : 0 ≤ g ∧ g ≤ 1099511627776) : named (foldN manP g) = true := foldN_named (by decide) (by decide) h
theorem framedP_full {D : Dk} {nm : ByteArray} {b : List UInt8} (hn : named nm = true) (hf : findF D.files nm = some (fullF nm (frameB b))) (hb : b.length ≤ 1048576) : framedP D nm = some b := by
  have h1 := takeFrame_frameB (b := b) (most := 1073741824) (by omega) (by omega) []
  rw [List.append_nil] at h1
  unfold framedP
  rw [if_pos hn, hf]
  show (match takeFrame (frameB b) 1073741824 with | some (b, []) => some b | _ => none) = some b
  rw [h1]
theorem encV_small {v : Vs} (h : checkV v = true) : (encV v).length ≤ 1048576 := by
  have h1 := (encV_len h).1
  have h2 := (encV_len h).2
  omega
theorem Counts.load {D : Dk} {v : Vs} (h : Counts D.files v) : loadV D = some v := by
  have hg := checkV_gen h.ok
  have h1 := framedP_full curN_named h.cur (by have := nB_len v.gen; omega)
  have h2 := framedP_full (manP_named hg) h.man (encV_small h.ok)
  have h3 : takeNum (nB v.gen) = some (v.gen.toNat, []) := by
    have := takeNum_numB (n := v.gen.toNat) (by omega) []
    rw [List.append_nil] at this
    have hc : clampN v.gen = v.gen.toNat := by unfold clampN; omega
    unfold nB
    rw [hc]
    exact this
  have h4 : ((v.gen.toNat : Nat) : Int) = v.gen := Int.toNat_of_nonneg hg.1
  unfold loadV
  rw [h.cur]
  simp only
  rw [h1]
  simp only
  rw [h3]
  simp only
  rw [h4, h2]
  simp only
  rw [decV_encV h.ok]
  simp
theorem load_empty {D : Dk} (h : findF D.files curN = none) : loadV D = some zeroV := by unfold loadV; rw [h]

/-! names -/
theorem numF_size {p nm : ByteArray} {v : Int} (h : numF p nm = some v) : nm.size = p.size + 13 := by
  obtain ⟨h1, h2⟩ := numF_some h
  rw [← h2, foldN_size h1]
theorem numF_ne {p nm : ByteArray} (h : nm.size ≠ p.size + 13) : numF p nm = none := by unfold numF; rw [if_neg h]
theorem manP_size {g : Int} (h : 0 ≤ g ∧ g ≤ 1099511627776) : (foldN manP g).size = 17 := foldN_size h
theorem man_ne_cur {g : Int} (h : 0 ≤ g ∧ g ≤ 1099511627776) : foldN manP g ≠ curN := fun e => by
  have h1 := manP_size h
  rw [e] at h1
  exact absurd h1 (by decide)
theorem man_ne_shad {g : Int} (h : 0 ≤ g ∧ g ≤ 1099511627776) : foldN manP g ≠ shadN := fun e => by
  have h1 := manP_size h
  rw [e] at h1
  exact absurd h1 (by decide)
theorem shad_ne_cur : shadN ≠ curN := by decide
theorem cur_num (p : ByteArray) : numF p curN = none := numF_ne (by show (3 : Nat) ≠ _; omega)
theorem shad_num (p : ByteArray) : numF p shadN = none := numF_ne (by show (4 : Nat) ≠ _; omega)
theorem fold_other {p q : ByteArray} (hpq : p.data.toList.take 4 ≠ q.data.toList.take 4) (hp : p.size = 4) (hq : q.size = 4) {g : Int} (h : 0 ≤ g ∧ g ≤ 1099511627776) : numF q (foldN p g) = none := by
  cases hn : numF q (foldN p g) with
  | none => rfl
  | some x =>
    obtain ⟨h1, h2⟩ := numF_some hn
    exfalso
    have h3 := congrArg (fun s : ByteArray => s.data.toList.take 4) h2
    rw [foldN_dat h1, foldN_dat h] at h3
    rw [← size_dat] at hp hq
    rw [List.take_append_of_le_length (by omega), List.take_append_of_le_length (by omega)] at h3
    exact hpq h3.symm

/-! what a sweep keeps -/
theorem removeD_either {D : Dk} (ok : DkOk D) (nm k : ByteArray) : findF (removeD D nm).files k = none ∨ findF (removeD D nm).files k = findF D.files k := by
  by_cases hk : k = nm
  · rw [removeD_files]
    split
    · rw [hk]; exact .inl (findF_del_same ok.nd)
    · exact .inr rfl
  · exact .inr (removeD_other hk)
theorem sweepL_either (so : ByteArray → Bool) (k : ByteArray) : ∀ (L : List ByteArray) {D : Dk}, DkOk D → findF (sweepL so L D).1.files k = none ∨ findF (sweepL so L D).1.files k = findF D.files k
  | [], _, _ => .inr rfl
  | n :: r, D, ok => by
    rw [sweepL]
    split
    · split
      · rcases sweepL_either so k r (removeD_ok ok n) with h | h
        · exact .inl h
        · rw [h]; exact removeD_either ok n k
      · exact removeD_either ok n k
    · exact sweepL_either so k r ok
theorem sweepD_either (so : ByteArray → Bool) (k : ByteArray) {D : Dk} (ok : DkOk D) : findF (sweepD so D).1.files k = none ∨ findF (sweepD so D).1.files k = findF D.files k := sweepL_either so k _ ok

theorem soOwn_false {own k : ByteArray} (h1 : k ≠ shadN) (h2 : k ≠ own) : soOwn own k = false := by unfold soOwn; simp [h1, h2]
theorem soOld_own (own : ByteArray) : soOld own own = false := by unfold soOld; simp
theorem soOld_cur (own : ByteArray) : soOld own curN = false := by unfold soOld; rw [cur_num]; rfl

/-- how far a Save went. -/
inductive Went (D D' : Dk) (v : Vs) (e : Int) : Prop
  | back (h : e ≠ 0) (k : ∀ k, k ≠ shadN → k ≠ foldN manP v.gen → findF D'.files k = findF D.files k)
  | made (c : Counts D'.files v) (k : ∀ k, k ≠ curN → k ≠ foldN manP v.gen → findF D'.files k = none ∨ findF D'.files k = findF D.files k) (s : findF D'.files shadN = none)
      (z : e = 0 → ∀ k, k ≠ foldN manP v.gen → (numF manP k).isSome = true → findF D'.files k = none)

theorem saveT_went {D : Dk} (ok : DkOk D) {v : Vs} (hc : checkV v = true) : Went D (saveT D v).1 v (saveT D v).2 := by
  have hg := checkV_gen hc
  obtain ⟨own, hown⟩ : ∃ own, foldN manP v.gen = own := ⟨_, rfl⟩
  have hoc : own ≠ curN := by rw [← hown]; exact man_ne_cur hg
  have hos : own ≠ shadN := by rw [← hown]; exact man_ne_shad hg
  have hen : encE v = encV v := by unfold encE; rw [if_pos hc]
  have ok1 := sweepD_ok (soOwn own) ok
  have o1 : ∀ k, k ≠ shadN → k ≠ own → findF (sweepD (soOwn own) D).1.files k = findF D.files k := fun k h1 h2 => sweepD_other (soOwn_false h1 h2) D
  unfold saveT
  simp only
  rw [hown]
  split
  · rename_i e1
    have n1 : findF (sweepD (soOwn own) D).1.files own = none := sweepD_gone (by unfold soOwn; simp) ok e1
    have s1 : findF (sweepD (soOwn own) D).1.files shadN = none := sweepD_gone (by unfold soOwn; simp) ok e1
    obtain ⟨D1, hD1⟩ : ∃ D1, (sweepD (soOwn own) D).1 = D1 := ⟨_, rfl⟩
    rw [hD1] at ok1 o1 n1 s1 ⊢
    have ok2 := writeD_ok ok1 own (frameB (encE v))
    have o2 : ∀ k, k ≠ shadN → k ≠ own → findF (writeD D1 own (frameB (encE v))).1.files k = findF D.files k := fun k h1 h2 => (writeD_other h2 _).trans (o1 k h1 h2)
    split
    · rename_i e2
      have n2 := writeD_zero e2 n1 (by intro e; have := frameB_pos (encE v); rw [e] at this; simp at this)
      have s2 : findF (writeD D1 own (frameB (encE v))).1.files shadN = none := (writeD_other (fun e => hos e.symm) _).trans s1
      obtain ⟨D2, hD2⟩ : ∃ D2, (writeD D1 own (frameB (encE v))).1 = D2 := ⟨_, rfl⟩
      rw [hD2] at ok2 o2 n2 s2 ⊢
      have ok3 := writeD_ok ok2 shadN (frameB (nB v.gen))
      have o3 : ∀ k, k ≠ shadN → k ≠ own → findF (writeD D2 shadN (frameB (nB v.gen))).1.files k = findF D.files k := fun k h1 h2 => (writeD_other h1 _).trans (o2 k h1 h2)
      have n3 := (writeD_other (D := D2) hos (frameB (nB v.gen))).trans n2
      split
      · rename_i e3
        have s3 := writeD_zero e3 s2 (by intro e; have := frameB_pos (nB v.gen); rw [e] at this; simp at this)
        obtain ⟨D3, hD3⟩ : ∃ D3, (writeD D2 shadN (frameB (nB v.gen))).1 = D3 := ⟨_, rfl⟩
        rw [hD3] at ok3 o3 n3 s3 ⊢
        have ok4 := renameD_ok ok3 shadN curN
        split
        · rename_i e4
          have r4 := renameD_zero ok3 e4 shad_ne_cur s3
          obtain ⟨D4, hD4⟩ : ∃ D4, renameD D3 shadN curN = D4 := ⟨_, rfl⟩
          rw [hD4] at ok4 r4 ⊢
          have ok5 := sweepD_ok (soOld own) ok4
          have hcur : findF (sweepD (soOld own) D4).1.files curN = some (fullF curN (frameB (nB v.gen))) := by
            rw [sweepD_other (soOld_cur own), r4, if_pos rfl]; rfl
          have hman : findF (sweepD (soOld own) D4).1.files own = some (fullF own (frameB (encV v))) := by
            rw [sweepD_other (soOld_own own), r4, if_neg hoc, if_neg hos, n3, hen]; rfl
          refine .made ⟨hc, hcur, by rw [hown]; exact hman⟩ (fun k k1 k2 => ?_) (sweepD_less ok4 (by rw [r4, if_neg shad_ne_cur, if_pos rfl])) (fun e5 k k2 k3 => ?_)
          · rw [hown] at k2
            have h5 : findF D4.files k = none ∨ findF D4.files k = findF D.files k := by
              rw [r4, if_neg k1]
              split
              · exact .inl rfl
              · rename_i k3; exact .inr (o3 k k3 k2)
            rcases sweepD_either (soOld own) k ok4 with h | h
            · exact .inl h
            · rw [h]; exact h5
          · rw [hown] at k2
            exact sweepD_gone (by unfold soOld; rw [k3]; simp [k2]) ok4 e5
        · rename_i e4
          refine .back e4 fun k k1 k2 => ?_
          rw [hown] at k2
          rw [renameD_not e4]
          exact o3 k k1 k2
      · rename_i e3
        exact .back e3 fun k k1 k2 => by rw [hown] at k2; exact o3 k k1 k2
    · rename_i e2
      exact .back e2 fun k k1 k2 => by rw [hown] at k2; exact o2 k k1 k2
  · rename_i e1
    exact .back e1 fun k k1 k2 => by rw [hown] at k2; exact o1 k k1 k2
theorem saveD_went {D : Dk} (ok : DkOk D) (v : Vs) : Went D (saveD D v).1 v (saveD D v).2 := by
  unfold saveD
  split
  · rename_i h
    split
    · exact .back (show (5 : Int) ≠ 0 by omega) fun _ _ _ => rfl
    · split
      · exact .back (show (4 : Int) ≠ 0 by omega) fun _ _ _ => rfl
      · exact saveT_went ok h.1
  · exact .back (show (1 : Int) ≠ 0 by omega) fun _ _ _ => rfl

/-! a calm disk -/
theorem removeD_calm {D : Dk} (c : Calm D) (ok : DkOk D) {nm : ByteArray} (h : (findF D.files nm).isSome = true) : removeE D nm = 0 ∧ Calm (removeD D nm) ∧ (removeD D nm).n = D.n ∧ (removeD D nm).used ≤ D.used := by
  obtain ⟨f, hf⟩ := Option.isSome_iff_exists.1 h
  have hn : named nm = true := by rw [← find_name hf]; exact ok.nm f (findF_mem hf)
  have hcost : 0 ≤ costF f := by unfold costF; omega
  obtain ⟨h0, h1⟩ := spend_calm c (more := -costF f) (by have := ok.u1; omega)
  have e0 : removeE D nm = 0 := by unfold removeE; rw [if_pos hn, if_neg (by rw [c.off]; simp), hf]; exact h0
  refine ⟨e0, ?_⟩
  unfold removeD
  rw [if_pos ⟨hn, c.off⟩, hf]
  simp only
  rw [if_pos h0, h1]
  exact ⟨⟨c.off, rfl⟩, rfl, by show D.used + -costF f ≤ D.used; omega⟩
theorem sweepL_calm {so : ByteArray → Bool} : ∀ (L : List ByteArray) {D : Dk}, Calm D → DkOk D → L.Nodup → (∀ n ∈ L, (findF D.files n).isSome = true) → (sweepL so L D).2 = 0 ∧ Calm (sweepL so L D).1 ∧ (sweepL so L D).1.n = D.n ∧ (sweepL so L D).1.used ≤ D.used
  | [], D, c, _, _, _ => ⟨rfl, c, rfl, Int.le_refl _⟩
  | n :: r, D, c, ok, nd, hL => by
    obtain ⟨nd1, nd2⟩ := List.nodup_cons.1 nd
    rw [sweepL]
    split
    · obtain ⟨h0, h1, h2, h3⟩ := removeD_calm c ok (hL n (.head _))
      rw [if_pos h0]
      obtain ⟨a, b, c', d⟩ := sweepL_calm (so := so) r h1 (removeD_ok ok n) nd2 fun k hk => by
        rw [removeD_other (fun e => nd1 (by rw [← e]; exact hk))]
        exact hL k (.tail _ hk)
      exact ⟨a, b, by rw [c', h2], by omega⟩
    · exact sweepL_calm r c ok nd2 fun k hk => hL k (.tail _ hk)
theorem sweepD_calm (so : ByteArray → Bool) {D : Dk} (c : Calm D) (ok : DkOk D) : (sweepD so D).2 = 0 ∧ Calm (sweepD so D).1 ∧ (sweepD so D).1.n = D.n ∧ (sweepD so D).1.used ≤ D.used :=
  sweepL_calm _ c ok (namesD_nodup ok.nd) fun _ hn => (namesD_mem ok.nd).1 hn
theorem writeD_calm {D : Dk} (c : Calm D) {nm : ByteArray} (hn : named nm = true) (hf : findF D.files nm = none) {b : List UInt8} (hb : b ≠ []) (hr : (16 : Int) + nm.size + b.length ≤ D.n - D.used) :
    (writeD D nm b).2 = 0 ∧ Calm (writeD D nm b).1 ∧ (writeD D nm b).1.n = D.n ∧ (writeD D nm b).1.used = D.used + (16 + nm.size + b.length) := by
  obtain ⟨hfl, hp⟩ := pieces_flat _ b (Nat.le_refl _)
  have key : (appAll nm D (piecesB b)).2 = 0 ∧ Grew D (appAll nm D (piecesB b)).1 nm b (16 + nm.size + b.length) := by
    cases hpc : piecesB b with
    | nil => rw [hpc] at hfl; exact absurd hfl.symm hb
    | cons p r =>
      rw [hpc] at hfl hp
      have hlen : p.length + r.flatten.length = b.length := by rw [← hfl]; simp
      have hm : moreA D nm p.length = 16 + nm.size + p.length := by unfold moreA; rw [hf]; rfl
      obtain ⟨e0, e1⟩ := append_grew c hn (hp p (.head _)) (by rw [hm]; omega)
      rw [hm, fileB_none hf, List.nil_append] at e1
      obtain ⟨s, hs⟩ := e1.file
      obtain ⟨g0, g1⟩ := appAll_has hn r (appendD D nm p) _ e1.calm hs (fun x hx => hp x (.tail _ hx)) (by rw [e1.n, e1.used]; omega)
      rw [appAll_cons e0]
      refine ⟨g0, ?_⟩
      have := e1.trans g1
      rw [show p ++ r.flatten = b by rw [← hfl]; rfl] at this
      rw [show (16 : Int) + (nm.size : Int) + (b.length : Int) = 16 + (nm.size : Int) + (p.length : Int) + (r.flatten.length : Int) by omega]
      exact this
  obtain ⟨k0, k1⟩ := key
  obtain ⟨s, hs⟩ := k1.file
  obtain ⟨s0, s1⟩ := sync_grew k1.calm hn (by rw [k1.n, k1.used]; omega) hs
  unfold writeD
  rw [if_pos k0]
  exact ⟨s0, s1.calm, by rw [s1.n, k1.n], by rw [s1.used, k1.used]; omega⟩
theorem renameD_calm {D : Dk} (c : Calm D) {a b : ByteArray} (ha : named a = true) (hb : named b = true) {f : Fl} (hf : findF D.files a = some f) (hm : moreR D a b ≤ D.n - D.used) :
    renameE D a b = 0 ∧ Calm (renameD D a b) ∧ (renameD D a b).n = D.n := by
  obtain ⟨h0, h1⟩ := spend_calm c hm
  have e0 : renameE D a b = 0 := by unfold renameE; rw [if_pos ⟨ha, hb⟩, if_neg (by rw [c.off]; simp), hf]; exact h0
  refine ⟨e0, ?_⟩
  unfold renameD
  rw [if_pos ⟨ha, hb, c.off⟩, hf]
  simp only
  rw [if_pos h0, h1]
  exact ⟨⟨c.off, rfl⟩, rfl⟩
theorem frameB_ne (b : List UInt8) : frameB b ≠ [] := fun e => by have := frameB_pos b; rw [e] at this; simp at this
theorem saveT_calm {D : Dk} (c : Calm D) (ok : DkOk D) {v : Vs} (hc : checkV v = true) (hr : needC v ≤ D.n - D.used) : (saveT D v).2 = 0 ∧ Calm (saveT D v).1 ∧ (saveT D v).1.n = D.n := by
  have hg := checkV_gen hc
  unfold needC at hr
  rw [if_pos hc] at hr
  obtain ⟨own, hown⟩ : ∃ own, foldN manP v.gen = own := ⟨_, rfl⟩
  have hos : own ≠ shadN := by rw [← hown]; exact man_ne_shad hg
  have hon : named own = true := by rw [← hown]; exact manP_named hg
  rw [hown] at hr
  have hssz : shadN.size = 4 := rfl
  have hcsz : curN.size = 3 := rfl
  obtain ⟨z1, c1, n1, u1⟩ := sweepD_calm (soOwn own) c ok
  have ok1 := sweepD_ok (soOwn own) ok
  have g1 : findF (sweepD (soOwn own) D).1.files own = none := sweepD_gone (by unfold soOwn; simp) ok z1
  have s1 : findF (sweepD (soOwn own) D).1.files shadN = none := sweepD_gone (by unfold soOwn; simp) ok z1
  unfold saveT
  simp only
  rw [hown, if_pos z1]
  obtain ⟨D1, hD1⟩ : ∃ D1, (sweepD (soOwn own) D).1 = D1 := ⟨_, rfl⟩
  rw [hD1] at c1 n1 u1 ok1 g1 s1 ⊢
  obtain ⟨z2, c2, n2, u2⟩ := writeD_calm c1 hon g1 (frameB_ne (encE v)) (by omega)
  have ok2 := writeD_ok ok1 own (frameB (encE v))
  have s2 : findF (writeD D1 own (frameB (encE v))).1.files shadN = none := (writeD_other (fun e => hos e.symm) _).trans s1
  rw [if_pos z2]
  obtain ⟨D2, hD2⟩ : ∃ D2, (writeD D1 own (frameB (encE v))).1 = D2 := ⟨_, rfl⟩
  rw [hD2] at c2 n2 u2 ok2 s2 ⊢
  obtain ⟨z3, c3, n3, u3⟩ := writeD_calm c2 shadN_named s2 (frameB_ne (nB v.gen)) (by rw [hssz]; omega)
  have ok3 := writeD_ok ok2 shadN (frameB (nB v.gen))
  have s3 := writeD_zero z3 s2 (frameB_ne (nB v.gen))
  rw [if_pos z3]
  obtain ⟨D3, hD3⟩ : ∃ D3, (writeD D2 shadN (frameB (nB v.gen))).1 = D3 := ⟨_, rfl⟩
  rw [hD3] at c3 n3 u3 ok3 s3 ⊢
  obtain ⟨z4, c4, n4⟩ := renameD_calm c3 shadN_named curN_named s3 (by
    have hu := ok3.u1
    unfold moreR
    rw [hssz, hcsz]
    split
    · rename_i g _
      rw [if_neg shad_ne_cur]
      have : 0 ≤ costF g := by unfold costF; omega
      omega
    · omega)
  have ok4 := renameD_ok ok3 shadN curN
  rw [if_pos z4]
  obtain ⟨z5, c5, n5, _⟩ := sweepD_calm (soOld own) c4 ok4
  exact ⟨z5, c5, by rw [n5, n4, n3, n2, n1]⟩
/-- on a calm disk a Save succeeds, or turns nothing. -/
theorem saveD_calm {D : Dk} (c : Calm D) (ok : DkOk D) (v : Vs) : Calm (saveD D v).1 ∧ (saveD D v).1.n = D.n ∧ ((saveD D v).2 = 0 ∨ (saveD D v).1 = D) := by
  unfold saveD
  split
  · rename_i h
    split
    · exact ⟨c, rfl, .inr rfl⟩
    · split
      · exact ⟨c, rfl, .inr rfl⟩
      · rename_i hr
        obtain ⟨a, b, d⟩ := saveT_calm c ok h.1 (by omega)
        exact ⟨b, d, .inl a⟩
  · exact ⟨c, rfl, .inr rfl⟩

/-! crashes -/
theorem crash1_full {D : Dk} (nm : ByteArray) (p : Option Int) {k : ByteArray} {b : List UInt8} (h : findF D.files k = some (fullF k b)) : findF (crash1 D nm p).files k = some (fullF k b) := by
  unfold crash1
  split
  · exact h
  · rename_i f hf
    by_cases hk : nm = k
    · subst hk
      rw [h] at hf
      cases hf
      have hkp : keepC (fullF nm b) p = b.length := by
        unfold keepC fullF
        split
        · rfl
        · simp [Nat.mod_one]
      have := findF_put_same ⟨nm, keepC (fullF nm b) p, (fullF nm b).bytes.take (keepC (fullF nm b) p)⟩ D.files
      simp only at this ⊢
      rw [this, hkp]
      unfold fullF
      simp
    · rw [findF_put_other _ hk]
      exact h
theorem crashL_full (picks : List Int) {k : ByteArray} {b : List UInt8} : ∀ (L : List ByteArray) (i : Nat) {D : Dk}, findF D.files k = some (fullF k b) → findF (crashL picks i L D).files k = some (fullF k b)
  | [], _, _, h => h
  | n :: L, i, _, h => crashL_full picks L (i + 1) (crash1_full n _ h)
theorem crashD_full {D : Dk} (picks : List Int) (L : List ByteArray) {k : ByteArray} {b : List UInt8} (h : findF D.files k = some (fullF k b)) : findF (crashD D picks L).files k = some (fullF k b) := crashL_full picks L 0 h
theorem crashD_names (D : Dk) (picks : List Int) (L : List ByteArray) : (crashD D picks L).files.map (·.name) = D.files.map (·.name) := crashL_names picks L 0 D
theorem isSome_names {fs gs : List Fl} (h : fs.map (·.name) = gs.map (·.name)) (k : ByteArray) : (findF fs k).isSome = (findF gs k).isSome := by
  have key : ∀ fs gs : List Fl, fs.map (·.name) = gs.map (·.name) → (findF fs k).isSome = true → (findF gs k).isSome = true := by
    intro fs gs h hs
    obtain ⟨f, hf⟩ := Option.isSome_iff_exists.1 hs
    have hm : k ∈ gs.map (·.name) := by rw [← h]; exact List.mem_map.2 ⟨f, findF_mem hf, find_name hf⟩
    obtain ⟨g, hg⟩ := findF_of_name hm
    rw [hg]; rfl
  exact Bool.eq_iff_iff.2 ⟨key fs gs h, key gs fs h.symm⟩
theorem crashD_calm (D : Dk) (picks : List Int) (L : List ByteArray) : Calm (crashD D picks L) := ⟨rfl, rfl⟩
theorem Counts.crash {D : Dk} {v : Vs} (h : Counts D.files v) (picks : List Int) (L : List ByteArray) : Counts (crashD D picks L).files v := ⟨h.ok, crashD_full picks L h.cur, crashD_full picks L h.man⟩
theorem crashD_none {D : Dk} (picks : List Int) (L : List ByteArray) {k : ByteArray} (h : findF D.files k = none) : findF (crashD D picks L).files k = none := by
  have := isSome_names (crashD_names D picks L) k
  rw [h] at this
  simpa using this

/-! Clean -/
theorem cleanSo_cur (v : Vs) : cleanSo v curN = false := by
  unfold cleanSo
  rw [cur_num, cur_num, cur_num]
  rfl
theorem cleanSo_own {v : Vs} (hg : 0 ≤ v.gen ∧ v.gen ≤ 1099511627776) : cleanSo v (foldN manP v.gen) = false := by
  unfold cleanSo
  rw [numF_name hg]
  simp
theorem cleanSo_man {v : Vs} {g : Int} (hg : 0 ≤ g ∧ g ≤ 1099511627776) (h : g ≠ v.gen) : cleanSo v (foldN manP g) = true := by
  unfold cleanSo
  rw [numF_name hg]
  simp [h]
theorem cleanSo_shad (v : Vs) : cleanSo v shadN = true := by
  unfold cleanSo
  rw [shad_num, shad_num]
  simp
theorem cleanD_calm {D : Dk} (c : Calm D) (ok : DkOk D) {v : Vs} (h : checkV v = true) : (cleanD D v).2 = 0 ∧ Calm (cleanD D v).1 ∧ ∀ k, findF (cleanD D v).1.files k = if cleanSo v k = true then none else findF D.files k := by
  unfold cleanD
  rw [if_pos h]
  obtain ⟨z, c', _, _⟩ := sweepD_calm (cleanSo v) c ok
  exact ⟨z, c', sweepD_find ok z⟩
theorem Counts.clean {D : Dk} (c : Calm D) (ok : DkOk D) {v : Vs} (h : Counts D.files v) : Counts (cleanD D v).1.files v := by
  obtain ⟨_, _, hf⟩ := cleanD_calm c ok h.ok
  refine ⟨h.ok, ?_, ?_⟩
  · rw [hf, cleanSo_cur]; exact h.cur
  · rw [hf, cleanSo_own (checkV_gen h.ok)]; exact h.man

/-- two files. -/
theorem two_files {D : Dk} (ok : DkOk D) {a b : ByteArray} (hab : a ≠ b) (ha : (findF D.files a).isSome = true) (hb : (findF D.files b).isSome = true) (h : ∀ k, k ≠ a → k ≠ b → findF D.files k = none) : D.files.length = 2 := by
  have hp : (D.files.map (·.name)).Perm [a, b] := by
    refine (List.perm_ext_iff_of_nodup ok.nd (by simp [hab])).2 fun k => ?_
    have hk : k ∈ D.files.map (·.name) ↔ (findF D.files k).isSome = true := by rw [← namesD_mem ok.nd, (namesD_perm D ok.nd).mem_iff]
    rw [hk]
    simp only [List.mem_cons, List.not_mem_nil, or_false]
    constructor
    · intro hs
      refine Decidable.byContradiction fun hn => ?_
      rw [not_or] at hn
      rw [h k hn.1 hn.2] at hs
      cases hs
    · rintro (rfl | rfl)
      · exact ha
      · exact hb
  have := hp.length_eq
  simpa using this

end Go.Proofs.YtdpjnpjmokncdaaGreatDoor

/- The reference's removals are the program's sweeps. Plain. -/
namespace Go.Proofs.YtdpjnpjmokncdaaGreatDoor
open Go.RowKit

theorem sweep_remL (so : ByteArray → Bool) : ∀ (L : List ByteArray) {D : Dk}, DkOk D → L.Nodup → (∀ n ∈ L, (findF D.files n).isSome = true) → sweepL so L D = remL (L.filter so) D
  | [], _, _, _, _ => rfl
  | n :: r, D, ok, nd, hp => by
    rw [sweepL]
    rw [List.nodup_cons] at nd
    by_cases hs : so n = true
    · rw [if_pos hs, List.filter_cons_of_pos hs, remL, if_pos (hp n (.head _))]
      by_cases he : removeE D n = 0
      · rw [if_pos he, if_pos he]
        refine sweep_remL so r (removeD_ok ok n) nd.2 fun k hk => ?_
        have hkn : k ≠ n := fun e => nd.1 (by rw [← e]; exact hk)
        rw [removeD_other hkn]
        exact hp k (.tail _ hk)
      · rw [if_neg he, if_neg he]
    · rw [if_neg hs, List.filter_cons_of_neg hs]
      exact sweep_remL so r ok nd.2 fun k hk => hp k (.tail _ hk)
theorem remL_present : ∀ (M : List ByteArray) {D : Dk}, DkOk D → M.Nodup → remL M D = remL (M.filter fun n => (findF D.files n).isSome) D
  | [], _, _, _ => rfl
  | n :: r, D, ok, nd => by
    rw [List.nodup_cons] at nd
    by_cases hs : (findF D.files n).isSome = true
    · rw [List.filter_cons_of_pos (by exact hs), remL, remL, if_pos hs, if_pos hs]
      by_cases he : removeE D n = 0
      · rw [if_pos he, if_pos he, remL_present r (removeD_ok ok n) nd.2]
        have hc : (r.filter fun k => (findF D.files k).isSome) = r.filter fun k => (findF (removeD D n).files k).isSome := by
          refine List.filter_congr fun k hk => ?_
          have hkn : k ≠ n := fun e => nd.1 (by rw [← e]; exact hk)
          rw [removeD_other hkn]
        rw [hc]
      · rw [if_neg he, if_neg he]
    · rw [List.filter_cons_of_neg (by exact hs), remL, if_neg hs]
      exact remL_present r ok nd.2

/-- the list of a sweep. -/
theorem sweepD_rem (so : ByteArray → Bool) {D : Dk} (ok : DkOk D) : sweepD so D = remL ((namesD D).filter so) D :=
  sweep_remL so (namesD D) ok (namesD_nodup ok.nd) fun _ hn => (namesD_mem ok.nd).1 hn

def keyN (s : ByteArray) : List UInt8 := s.data.toList
theorem namesD_rise (D : Dk) : (namesD D).Pairwise fun a b => keyN a ≤ keyN b := by
  unfold namesD
  rw [List.pairwise_map]
  exact (msort_le (D.files.map keyF)).imp fun h => by simpa [keyN] using h
theorem shad_before {g : Int} (h : 0 ≤ g ∧ g ≤ 1099511627776) : keyN shadN ≤ keyN (foldN manP g) := by
  unfold keyN
  rw [foldN_dat h]
  exact List.le_of_lt (List.Lex.rel (by decide))
theorem sweep_own {D : Dk} (ok : DkOk D) {g : Int} (h : 0 ≤ g ∧ g ≤ 1099511627776) : sweepD (soOwn (foldN manP g)) D = remL [shadN, foldN manP g] D := by
  have hne : shadN ≠ foldN manP g := fun e => man_ne_shad h e.symm
  have nd2 : [shadN, foldN manP g].Nodup := by simp [hne]
  rw [sweepD_rem _ ok, remL_present _ ok nd2]
  congr 1
  have hp : ((namesD D).filter (soOwn (foldN manP g))).Perm ([shadN, foldN manP g].filter fun n => (findF D.files n).isSome) := by
    rw [List.perm_ext_iff_of_nodup ((namesD_nodup ok.nd).filter _) (nd2.filter _)]
    intro a
    rw [List.mem_filter, List.mem_filter, namesD_mem ok.nd]
    unfold soOwn
    simp only [Bool.or_eq_true, decide_eq_true_eq, List.mem_cons, List.not_mem_nil, or_false]
    exact ⟨fun h => ⟨h.2, h.1⟩, fun h => ⟨h.2, h.1⟩⟩
  refine hp.eq_of_pairwise (le := fun a b => keyN a ≤ keyN b) (fun a b _ _ h1 h2 => ?_) ((namesD_rise D).filter _) (List.Pairwise.filter _ ?_)
  · exact ByteArray.ext (Array.ext' (List.le_antisymm h1 h2))
  · simp only [List.pairwise_cons, List.mem_cons, List.not_mem_nil, or_false, List.Pairwise.nil, and_true, forall_eq, false_imp_iff, implies_true]
    exact shad_before h

/-- what Clean takes away, as the reference asks. -/
def cleanQ (v : Vs) (nm : ByteArray) : Bool :=
  decide (nm = shadN) || ((match numF manP nm with | some n => decide (n ≠ v.gen) | none => false) ||
    ((match numF tabP nm with | some n => !(v.tables.any fun m => decide (m.num = n)) | none => false) ||
      (match numF logP nm with | some n => decide (n < v.log) | none => false)))
theorem num_excl {p q nm : ByteArray} {x : Int} (hpq : p.data.toList.take 4 ≠ q.data.toList.take 4) (hp : p.size = 4) (hq : q.size = 4) (h : numF p nm = some x) : numF q nm = none := by
  obtain ⟨h1, h2⟩ := numF_some h
  rw [← h2]
  exact fold_other hpq hp hq h1
theorem cleanQ_eq (v : Vs) (nm : ByteArray) : cleanQ v nm = cleanSo v nm := by
  unfold cleanQ cleanSo
  cases hm : numF manP nm with
  | some n =>
    rw [num_excl (q := tabP) (by decide) (by decide) (by decide) hm, num_excl (q := logP) (by decide) (by decide) (by decide) hm]
    have hne : nm ≠ shadN := fun e => by rw [e, shad_num] at hm; cases hm
    simp [hne]
  | none =>
    cases ht : numF tabP nm with
    | some n =>
      rw [num_excl (q := logP) (by decide) (by decide) (by decide) ht]
      have hne : nm ≠ shadN := fun e => by rw [e, shad_num] at ht; cases ht
      simp [hne]
    | none =>
      cases hl : numF logP nm <;> simp

end Go.Proofs.YtdpjnpjmokncdaaGreatDoor

/- sawyerref11.Save. -/
namespace Go.Proofs.YtdpjnpjmokncdaaGreatDoor
open Go.RowKit

theorem namesD_size {D : Dk} (ok : DkOk D) : ∀ nm ∈ namesD D, nm.size ≤ 100 := fun nm hm => by
  obtain ⟨f, hf⟩ := Option.isSome_iff_exists.1 ((namesD_mem ok.nd).1 hm)
  have h1 := ok.nm f (findF_mem hf)
  rw [find_name hf] at h1
  have := named_size h1
  omega
/-- between two rounds of the walk over the names. -/
structure OlM (w : World) (L : List ByteArray) (so : ByteArray → Bool) (q : Nat) (ys : List ByteArray) (wr : World) : Prop where
  mod : Mod Non w wr
  eq : ys = (L.take q).filter so
theorem filter_snoc {L : List ByteArray} {so : ByteArray → Bool} {q : Nat} {nm : ByteArray} (h : L[q]? = some nm) : (L.take (q + 1)).filter so = (L.take q).filter so ++ (if so nm = true then [nm] else []) := by
  rw [take_snoc' L q nm h, List.filter_append]
  congr 1
  by_cases hs : so nm = true
  · rw [if_pos hs, List.filter_cons_of_pos hs]; rfl
  · rw [if_neg hs, List.filter_cons_of_neg hs]; rfl
theorem rdS_two (w : World) (t : TypeId) (a b : ByteArray) : Rd (w.alloc (.cells #[.string a, .string b] t)) (some ⟨w.heap.size, 0, none⟩) 2 (strs [a, b]) := by
  refine ⟨rfl, fun _ => ⟨w.heap.size, 0, rfl, fun j u hu => ?_⟩⟩
  rw [Nat.zero_add, cell_of_row _ _ j _ t (0, 0) (heap_alloc_new w _)]
  match j, hu with
  | 0, hu => exact hu
  | 1, hu => exact hu

set_option maxRecDepth 100000 in
set_option maxHeartbeats 8000000 in
theorem saveR_any (E : Nat → Prop) (r : Nat) (D : Dk) (x : Vw) (w : World) (h : RkIs w E r D) (ok : DkOk D) (hx : VwOk w x) :
    Calls Tryz.prog 72 #[.pointer (some ⟨r, 0, none⟩), x.val] w (RkPost E r (saveD D x.v).1 (.int .i64 (saveD D x.v).2) w) := by
  obtain ⟨R, hR⟩ : ∃ R, saveD D x.v = R := ⟨_, rfl⟩
  rw [hR]
  have HXO := Lib.hid hx
  obtain ⟨gen, next, log, seq, A, c, ms⟩ := x
  obtain ⟨n, hn⟩ : ∃ n, ms.length = n := ⟨_, rfl⟩
  obtain ⟨V, hV⟩ : ∃ V, Vw.v ⟨gen, next, log, seq, A, c, ms⟩ = V := ⟨_, rfl⟩
  have hgen : V.gen = gen := by rw [← hV]; rfl
  have hck : ∀ W, Mod Non w W → Calls Tryz.prog 109 #[.agg #[.int .i64 gen, .int .i64 next, .int .i64 log, .int .i64 seq, .slice A n c]] W fun e w' => e = .returned (.int .i64 (if checkV V = true then 0 else 1)) ∧ Mod Non W w' := fun W hW => by
    have := checkR_any ⟨gen, next, log, seq, A, c, ms⟩ W (HXO.out.mod0 hW)
    unfold Vw.val at this
    simp only at this
    rw [hn, hV] at this
    exact this
  have hfs : ∀ W, Mod Non w W → Calls Tryz.prog 113 #[.agg #[.int .i64 gen, .int .i64 next, .int .i64 log, .int .i64 seq, .slice A n c]] W (FsPost V W) := fun W hW => by
    have := filesR_any ⟨gen, next, log, seq, A, c, ms⟩ W (HXO.out.mod0 hW)
    unfold Vw.val at this
    simp only at this
    rw [hn, hV] at this
    exact this
  have hnd : ∀ W, Mod Non w W → Calls Tryz.prog 71 #[.agg #[.int .i64 gen, .int .i64 next, .int .i64 log, .int .i64 seq, .slice A n c]] W fun e w' => e = .returned (.int .i64 (needC V)) ∧ Mod Non W w' := fun W hW => by
    have := needR_any ⟨gen, next, log, seq, A, c, ms⟩ W (HXO.out.mod0 hW)
    unfold Vw.val at this
    simp only at this
    rw [hn, hV] at this
    exact this
  have HCK := Lib.hid hck
  have HFS := Lib.hid hfs
  have HND := Lib.hid hnd
  have HG := Lib.hid hgen
  rw [hV] at hR
  have HR := Lib.hid hR
  unfold Vw.val
  simp only
  rw [hn]
  have HBX := Lib.hid (Blk.new w 30 #[.int .i64 gen, .int .i64 next, .int .i64 log, .int .i64 seq, .slice A n c])
  have HMA := Lib.hid ((Mod.refl Non w).alloc (.cells #[.int .i64 gen, .int .i64 next, .int .i64 log, .int .i64 seq, .slice A n c] 30))
  have HBW : Hid (∀ W, Mod Non (w.alloc (.cells #[.int .i64 gen, .int .i64 next, .int .i64 log, .int .i64 seq, .slice A n c] 30)) W → Blk W w.heap.size 30 #[.int .i64 gen, .int .i64 next, .int .i64 log, .int .i64 seq, .slice A n c]) := fun W hW => HBX.out.mod hW fun h => h
  have HH := Lib.hid h
  have HO := Lib.hid ok
  have HST : Hid (∀ w', Mod Non w w' → R.1 = D → ∀ q, R.2 = q → RkPost E r R.1 (.int .i64 R.2) w (.returned (.int .i64 q)) w') := fun w' hm h1 q h2 => by
    rw [h1, h2]
    exact ⟨rfl, E, HH.out.mod0 hm, hm.non, fun k hk => .inl hk⟩
  clear hck hfs hnd hgen hV hn h hR hx ok
  by_cases hcv : checkV V = true
  · rw [if_pos hcv] at HCK
    have hgr := checkV_gen hcv
    rw [HG.out] at hgr
    obtain ⟨hg0, hg1⟩ := hgr
    by_cases hgz : gen = 0
    · have HRV : Hid (R = (D, 1)) := by
        show _ = _
        rw [← HR.out]
        unfold saveD
        rw [if_neg (by rw [HG.out, hgz]; simp)]
      subst hgz
      clear hcv
      go_enter Tryz.func72, Tryz.ntmps72
      have hb := HBW.out _ (Mod.refl _ _)
      have x0 := hb.cell 0
      go_wp2_with fail
      refine (HCK.out _ HMA.out).mono ?_
      rintro e w1 ⟨rfl, hm1⟩
      have HM1 := Lib.hid hm1
      have y0 : w1.cell? ⟨w.heap.size, 0, none⟩ = some (.int .i64 0) := (HBW.out _ HM1.out).cell 0
      clear hm1 hb x0
      go_wp2_with fail
      go_ret
      exact HST.out _ (HMA.out.trans0 HM1.out) (by rw [HRV.out]) 1 (by rw [HRV.out])
    · have hgb : (gen == 0) = false := by simpa using hgz
      have HR2 : Hid (R = if D.off = true then (D, 5) else if D.n - D.used < needC V then (D, 4) else saveT D V) := by
        show _ = _
        rw [← HR.out]
        unfold saveD
        rw [if_pos ⟨hcv, by rw [HG.out]; exact hgz⟩]
      have HCV := Lib.hid hcv
      clear hcv hgz
      go_enter Tryz.func72, Tryz.ntmps72
      have hb := HBW.out _ (Mod.refl _ _)
      have x0 := hb.cell 0
      go_wp2_with fail
      refine (HCK.out _ HMA.out).mono ?_
      rintro e w1 ⟨rfl, hm1⟩
      have HM1 := Lib.hid hm1
      have y0 : w1.cell? ⟨w.heap.size, 0, none⟩ = some (.int .i64 gen) := (HBW.out _ HM1.out).cell 0
      have HH1 := Lib.hid (HH.out.mod0 (HMA.out.trans0 HM1.out))
      have hof : w1.cell? ⟨r, 4, none⟩ = some (.bool D.off) := by
        obtain ⟨_, _, _, _, _, h1, _⟩ := HH1.out
        exact h1.blk.cell 4
      clear hm1 hb x0
      cases hoff : D.off with
      | true =>
        rw [hoff] at hof
        have HRV : Hid (R = (D, 5)) := by show _ = _; rw [HR2.out, if_pos hoff]
        clear hoff
        go_wp2_with fail
        go_ret
        exact HST.out _ (HMA.out.trans0 HM1.out) (by rw [HRV.out]) 5 (by rw [HRV.out])
      | false =>
        rw [hoff] at hof
        have HR3 : Hid (R = if D.n - D.used < needC V then (D, 4) else saveT D V) := by show _ = _; rw [HR2.out, if_neg (by rw [hoff]; simp)]
        clear hoff
        go_wp2_with fail
        have hfr : ∀ W, Mod Non w1 W → Calls Tryz.prog 99 #[.pointer (some ⟨r, 0, none⟩)] W fun e w' => e = .returned (.int .i64 (D.n - D.used)) ∧ Mod Non W w' := fun W hW => by
          obtain ⟨B, A', n', c', xs', h1, _⟩ := HH1.out.mod0 hW
          have := freeR_any B r D A' n' c' xs' W h1 HO.out.n0 HO.out.n1 (by rw [HO.out.us]; have := HO.out.u1; have := HO.out.n1; omega)
          rw [HO.out.us] at this
          refine this.mono ?_
          rintro e w' ⟨rfl, q, rfl⟩
          exact ⟨rfl, (Mod.refl Non W).drewN q⟩
        have HFR := Lib.hid hfr
        have HND1 : Hid (∀ W, Mod Non w1 W → Calls Tryz.prog 71 #[.agg #[.int .i64 gen, .int .i64 next, .int .i64 log, .int .i64 seq, .slice A n c]] W fun e w' => e = .returned (.int .i64 (needC V)) ∧ Mod Non W w') := fun W hW => HND.out W ((HMA.out.trans0 HM1.out).trans0 hW)
        have hd1 : Mod Non w1 { w1 with drawn := w1.drawn + 1 } := (Mod.refl Non w1).drew
        have hall : ∀ x : WorldOf (Mod Non w1), Blk x.W w.heap.size 30 #[.int .i64 gen, .int .i64 next, .int .i64 log, .int .i64 seq, .slice A n c] := fun x => HBW.out _ (HM1.out.trans0 x.ok)
        have k0 : ∀ x : WorldOf (Mod Non w1), x.W.cell? ⟨w.heap.size, 0, none⟩ = some (.int .i64 gen) := fun x => (hall x).cell 0
        have k1 : ∀ x : WorldOf (Mod Non w1), x.W.cell? ⟨w.heap.size, 1, none⟩ = some (.int .i64 next) := fun x => (hall x).cell 1
        have k2 : ∀ x : WorldOf (Mod Non w1), x.W.cell? ⟨w.heap.size, 2, none⟩ = some (.int .i64 log) := fun x => (hall x).cell 2
        have k3 : ∀ x : WorldOf (Mod Non w1), x.W.cell? ⟨w.heap.size, 3, none⟩ = some (.int .i64 seq) := fun x => (hall x).cell 3
        have k4 : ∀ x : WorldOf (Mod Non w1), x.W.cell? ⟨w.heap.size, 4, none⟩ = some (.slice A n c) := fun x => (hall x).cell 4
        have hne : Nonempty (WorldOf (Mod Non w1)) := ⟨⟨w1, Mod.refl _ _⟩⟩
        clear hfr hall
        refine wp_region_class (S := Mod Non w1) (by kernel_rfl) (by kernel_rfl) hd1 ?_
        repeat (go_big_quiet_step ((first
          | (go_at_call 99; exact Calls.quiet_class (HFR.out _ (WorldOf.ok _)))
          | (go_at_call 71; exact Calls.quiet_class (HND1.out _ (WorldOf.ok _))))))
        refine wpQuiet_nil ?_
        rintro ⟨w2, hm2⟩
        dsimp only
        have HM2 := Lib.hid (HM1.out.trans0 hm2)
        clear k0 k1 k2 k3 k4 hm2 hd1 hof y0
        by_cases hsp : D.n - D.used < needC V
        · have hsd : decide (D.n - D.used < needC V) = true := decide_eq_true hsp
          have HRV : Hid (R = (D, 4)) := by show _ = _; rw [HR3.out, if_pos hsp]
          go_wp2_with fail
          go_ret
          exact HST.out _ (HMA.out.trans0 HM2.out) (by rw [HRV.out]) 4 (by rw [HRV.out])
        · have hsd : decide (D.n - D.used < needC V) = false := decide_eq_false hsp
          have HR4 : Hid (R = saveT D V) := by show _ = _; rw [HR3.out, if_neg hsp]
          have hsp2 : needC V ≤ D.n - D.used := by omega
          have y0 : w2.cell? ⟨w.heap.size, 0, none⟩ = some (.int .i64 gen) := (HBW.out _ HM2.out).cell 0
          obtain ⟨own, hown⟩ : ∃ own, foldN manP gen = own := ⟨_, rfl⟩
          have hnm : ∀ W, Calls Tryz.prog 73 #[.string ⟨#[109, 97, 110, 47]⟩, .int .i64 gen] W fun e w' => e = .returned (.string own) ∧ Mod Non W w' := fun W => by
            have := foldR_any manP gen W (by decide)
            rw [hown] at this
            exact this
          have HNM := Lib.hid hnm
          have HOWN := Lib.hid hown
          clear hnm hown
          go_wp2_with fail
          refine (HNM.out _).mono ?_
          rintro e w3 ⟨rfl, hm3⟩
          have HM3 := Lib.hid (HM2.out.trans0 hm3)
          have hb := HBW.out _ HM3.out
          have z0 : w3.cell? ⟨w.heap.size, 0, none⟩ = some (.int .i64 gen) := hb.cell 0
          have z1 : w3.cell? ⟨w.heap.size, 1, none⟩ = some (.int .i64 next) := hb.cell 1
          have z2 : w3.cell? ⟨w.heap.size, 2, none⟩ = some (.int .i64 log) := hb.cell 2
          have z3 : w3.cell? ⟨w.heap.size, 3, none⟩ = some (.int .i64 seq) := hb.cell 3
          have z4 : w3.cell? ⟨w.heap.size, 4, none⟩ = some (.slice A n c) := hb.cell 4
          clear hm3 y0 hb
          go_wp2_with fail
          refine (HFS.out w3 (HMA.out.trans0 HM3.out)).mono ?_
          rintro e w4 ⟨FA, fn, fc, FB, fm, fd, rfl, hra, hrb, hfa, hfb, hfc1, hfc2, hfd1, hfd2, hm4⟩
          rw [HG.out] at hrb
          have HM4 := Lib.hid (HMA.out.trans0 (HM3.out.trans0 hm4))
          have hrw : r < w.heap.size := by
            have := HH.out.elt r HH.out.rE
            exact this
          have s3 := (HMA.out.trans0 HM3.out).size
          have HRA : Hid (RdO w4 (fun k => k = r) FA fn (by8 (frameB (encE V)))) := ⟨hra, fun _ b hb e => by have := hfa b hb; omega⟩
          have HRB : Hid (RdO w4 (fun k => k = r) FB fm (by8 (frameB (nB gen)))) := ⟨hrb, fun _ b hb e => by have := hfb b hb; omega⟩
          have hel : (encE V).length ≤ 1048576 := by
            unfold encE
            rw [if_pos HCV.out]
            have h1 := (encV_len HCV.out).1
            have h2 := (encV_len HCV.out).2
            omega
          have hf1 := frameB_len (b := encE V) (by omega)
          have hf2 := frameB_len (b := nB gen) (by have := nB_len gen; omega)
          have hfn : fn ≤ 100000000 := by
            have : (frameB (encE V)).length = fn := by simpa using hra.1
            omega
          have hfm : fm ≤ 100000000 := by
            have h1 : (frameB (nB gen)).length = fm := by simpa using hrb.1
            have h2 := nB_len gen
            omega
          have hos : own.size ≤ 100 := by
            have := foldN_size (p := manP) (n := gen) ⟨hg0, hg1⟩
            rw [HOWN.out] at this
            rw [this]
            decide
          have HFIN : Hid (∀ w' E', RkIs w' E' r R.1 → Mod (fun k => k = r) w w' → (∀ k, E' k → E k ∨ w.heap.size ≤ k) → ∀ q, R.2 = q → RkPost E r R.1 (.int .i64 R.2) w (.returned (.int .i64 q)) w') := fun w' E' h1 h2 h3 q h4 => by
            rw [h4]
            exact ⟨rfl, E', h1, h2, h3⟩
          have hm5 : Mod Non w4 (w4.alloc (.cells #[.string ⟨#[99, 117, 114, 126]⟩, .string own] 9)) := (Mod.refl Non w4).alloc _
          have hrl : Rd (w4.alloc (.cells #[.string ⟨#[99, 117, 114, 126]⟩, .string own] 9)) (some ⟨w4.heap.size, 0, none⟩) 2 (strs [shadN, own]) := rdS_two w4 9 shadN own
          obtain ⟨D1, q1, hD1⟩ : ∃ D1 q1, remL [shadN, own] D = (D1, q1) := ⟨_, _, rfl⟩
          have hD1s : sweepD (soOwn own) D = (D1, q1) := by
            have := sweep_own HO.out ⟨hg0, hg1⟩
            rw [HOWN.out] at this
            rw [this, hD1]
          have HRE1 : Hid (R = if q1 = 0 then (let s2 := writeD D1 own (frameB (encE V)); if s2.2 = 0 then (let s3 := writeD s2.1 shadN (frameB (nB gen)); if s3.2 = 0 then (if renameE s3.1 shadN curN = 0 then sweepD (soOld own) (renameD s3.1 shadN curN) else (renameD s3.1 shadN curN, renameE s3.1 shadN curN)) else s3) else s2) else (D1, q1)) := by
            show _ = _
            rw [HR4.out]
            unfold saveT
            simp only
            rw [HG.out, HOWN.out, hD1s]
          have hOK1 : DkOk D1 := by
            have := sweepD_ok (soOwn own) HO.out
            rw [hD1s] at this
            exact this
          have hs4 := HM4.out.size
          have hc1 : Calls Tryz.prog 112 #[.pointer (some ⟨r, 0, none⟩), .slice (some ⟨w4.heap.size, 0, none⟩) 2 2] (w4.alloc (.cells #[.string ⟨#[99, 117, 114, 126]⟩, .string own] 9)) (RkPost E r D1 (.int .i64 q1) (w4.alloc (.cells #[.string ⟨#[99, 117, 114, 126]⟩, .string own] 9))) := by
            have := remL_any E r D (some ⟨w4.heap.size, 0, none⟩) 2 2 [shadN, own] (w4.alloc (.cells #[.string ⟨#[99, 117, 114, 126]⟩, .string own] 9)) (HH.out.mod0 (HM4.out.trans0 hm5)) HO.out ⟨hrl, fun _ b hb e => by
              cases hb
              have e' : w4.heap.size = r := e
              omega⟩ (fun nm hm => by
              simp only [List.mem_cons, List.not_mem_nil, or_false] at hm
              rcases hm with rfl | rfl
              · decide
              · omega) (by omega)
            rw [hD1] at this
            exact this
          have HC1 := Lib.hid hc1
          have HOK1 := Lib.hid hOK1
          have HM5 := Lib.hid (HM4.out.trans0 hm5)
          have HM45 := Lib.hid hm5
          clear hra hrb hfa hfb hm4 hm5 hrl hD1 hD1s hOK1 hc1 hf1 hf2 hel z0 z1 z2 z3 z4
          go_wp2_with fail
          refine HC1.out.mono ?_
          rintro e w6 ⟨rfl, E1, hd, hm, hsub⟩
          have HD1 := Lib.hid hd
          have HN1 : Hid (Mod (fun k => k = r) w w6) := HM5.out.non.trans hm fun k hk => .inl hk
          have HS1 : Hid (∀ k, E1 k → E k ∨ w.heap.size ≤ k) := fun k hk => (hsub k hk).imp id fun h => by have := HM5.out.size; omega
          have HRA1 : Hid (RdO w6 (fun k => k = r) FA fn (by8 (frameB (encE V)))) := ⟨(HRA.out.1.mod0 HM45.out).mod hm HRA.out.2, HRA.out.2⟩
          have HRB1 : Hid (RdO w6 (fun k => k = r) FB fm (by8 (frameB (nB gen)))) := ⟨(HRB.out.1.mod0 HM45.out).mod hm HRB.out.2, HRB.out.2⟩
          clear hd hm hsub
          by_cases hq : q1 = 0
          · subst hq
            have hre := HRE1.out
            rw [if_pos rfl] at hre
            obtain ⟨D2, q2, hqq2⟩ : ∃ D2 q2, writeD D1 own (frameB (encE V)) = (D2, q2) := ⟨_, _, rfl⟩
            have HRE2 : Hid (R = if q2 = 0 then (let s3 := writeD D2 shadN (frameB (nB gen)); if s3.2 = 0 then (if renameE s3.1 shadN curN = 0 then sweepD (soOld own) (renameD s3.1 shadN curN) else (renameD s3.1 shadN curN, renameE s3.1 shadN curN)) else s3) else (D2, q2)) := by
              show _ = _
              rw [hre]
              simp only [hqq2]
            have hOK2 : DkOk D2 := by have := writeD_ok HOK1.out own (frameB (encE V)); rw [hqq2] at this; exact this
            have HOK2 := Lib.hid hOK2
            have hc2 : Calls Tryz.prog 114 #[.pointer (some ⟨r, 0, none⟩), .string own, .slice FA fn fc] w6 (RkPost E1 r D2 (.int .i64 q2) w6) := by
              have := writeR_any E1 r D1 own FA fn fc (frameB (encE V)) w6 HD1.out HOK1.out HRA1.out hfc1 hfc2 (by omega) (by omega)
              rw [hqq2] at this
              exact this
            have HC2 := Lib.hid hc2
            clear hre hqq2 hOK2 hc2
            go_wp2_with fail
            refine HC2.out.mono ?_
            rintro e w7 ⟨rfl, E2, hd, hm, hsub⟩
            have HD2 := Lib.hid hd
            have HN2 : Hid (Mod (fun k => k = r) w w7) := HN1.out.trans hm fun k hk => .inl hk
            have HS2 : Hid (∀ k, E2 k → E k ∨ w.heap.size ≤ k) := fun k hk => (hsub k hk).elim (HS1.out k) fun h => .inr (by have := HN1.out.size; omega)
            have HRB2 : Hid (RdO w7 (fun k => k = r) FB fm (by8 (frameB (nB gen)))) := ⟨HRB1.out.1.mod hm HRB1.out.2, HRB1.out.2⟩
            clear hd hm hsub
            by_cases hq : q2 = 0
            · subst hq
              have hre := HRE2.out
              rw [if_pos rfl] at hre
              obtain ⟨D3, q3, hqq3⟩ : ∃ D3 q3, writeD D2 shadN (frameB (nB gen)) = (D3, q3) := ⟨_, _, rfl⟩
              have HRE3 : Hid (R = if q3 = 0 then (if renameE D3 shadN curN = 0 then sweepD (soOld own) (renameD D3 shadN curN) else (renameD D3 shadN curN, renameE D3 shadN curN)) else (D3, q3)) := by
                show _ = _
                rw [hre]
                simp only [hqq3]
              have hOK3 : DkOk D3 := by have := writeD_ok HOK2.out shadN (frameB (nB gen)); rw [hqq3] at this; exact this
              have HOK3 := Lib.hid hOK3
              have hc3 : Calls Tryz.prog 114 #[.pointer (some ⟨r, 0, none⟩), .string ⟨#[99, 117, 114, 126]⟩, .slice FB fm fd] w7 (RkPost E2 r D3 (.int .i64 q3) w7) := by
                have := writeR_any E2 r D2 shadN FB fm fd (frameB (nB gen)) w7 HD2.out HOK2.out HRB2.out hfd1 hfd2 (by omega) (by decide)
                rw [hqq3] at this
                exact this
              have HC3 := Lib.hid hc3
              clear hre hqq3 hOK3 hc3
              go_wp2_with fail
              refine HC3.out.mono ?_
              rintro e w8 ⟨rfl, E3, hd, hm, hsub⟩
              have HD3 := Lib.hid hd
              have HN3 : Hid (Mod (fun k => k = r) w w8) := HN2.out.trans hm fun k hk => .inl hk
              have HS3 : Hid (∀ k, E3 k → E k ∨ w.heap.size ≤ k) := fun k hk => (hsub k hk).elim (HS2.out k) fun h => .inr (by have := HN2.out.size; omega)
              clear hd hm hsub
              by_cases hq : q3 = 0
              · subst hq
                have hre := HRE3.out
                rw [if_pos rfl] at hre
                obtain ⟨D4, hD4⟩ : ∃ D4, renameD D3 shadN curN = D4 := ⟨_, rfl⟩
                obtain ⟨q4, hqq4⟩ : ∃ q4, renameE D3 shadN curN = q4 := ⟨_, rfl⟩
                have HRE4 : Hid (R = if q4 = 0 then sweepD (soOld own) D4 else (D4, q4)) := by
                  show _ = _
                  rw [hre]
                  simp only [hD4, hqq4]
                have hOK4 : DkOk D4 := by rw [← hD4]; exact renameD_ok HOK3.out _ _
                have HOK4 := Lib.hid hOK4
                have hc4 : Calls Tryz.prog 115 #[.pointer (some ⟨r, 0, none⟩), .string ⟨#[99, 117, 114, 126]⟩, .string ⟨#[99, 117, 114]⟩] w8 (RkPost E3 r D4 (.int .i64 q4) w8) := by
                  have := renameR_any E3 r D3 w8 HD3.out HOK3.out
                  rw [hD4, hqq4] at this
                  exact this
                have HC4 := Lib.hid hc4
                clear hre hD4 hqq4 hOK4 hc4
                go_wp2_with fail
                refine HC4.out.mono ?_
                rintro e w9 ⟨rfl, E4, hd, hm, hsub⟩
                have HD4 := Lib.hid hd
                have HN4 : Hid (Mod (fun k => k = r) w w9) := HN3.out.trans hm fun k hk => .inl hk
                have HS4 : Hid (∀ k, E4 k → E k ∨ w.heap.size ≤ k) := fun k hk => (hsub k hk).elim (HS3.out k) fun h => .inr (by have := HN3.out.size; omega)
                clear hd hm hsub
                by_cases hq : q4 = 0
                · subst hq
                  have hRv : R = sweepD (soOld own) D4 := by rw [HRE4.out, if_pos rfl]
                  have HRV := Lib.hid hRv
                  have hfl := files_len HOK4.out
                  have hns := namesD_size HOK4.out
                  have hnl := namesD_len D4 HOK4.out.nd
                  have hnr : Calls Tryz.prog 110 #[.pointer (some ⟨r, 0, none⟩)] w9 fun e w' => ∃ A n c, e = .returned (.slice A n c) ∧ Rd w' A n (strs (namesD D4)) ∧ n ≤ c ∧ c ≤ 9223372036854775807 ∧ Mod Non w9 w' :=
                    (namesR_any E4 r D4 w9 HD4.out (by omega)).mono fun e w' ⟨A, n, c, L, h1, h2, h3, h4, h5, h6, h7⟩ => ⟨A, n, c, h1, by rw [namesD_sorted h2]; exact h3, h4, h5, h7⟩
                  have HNR := Lib.hid hnr
                  clear hRv hnr
                  go_wp2_with fail
                  refine HNR.out.mono ?_
                  rintro e w10 ⟨NA, nn, nc, rfl, hrn, hnc, hncm, hm10⟩
                  obtain ⟨L, hL⟩ : ∃ L, namesD D4 = L := ⟨_, rfl⟩
                  rw [hL] at hrn hns hnl
                  have hll : L.length = nn := by have := hrn.1; simpa [strs] using this
                  have HLL := Lib.hid hll
                  have HRN := Lib.hid hrn
                  have HNS := Lib.hid hns
                  have HM10 := Lib.hid hm10
                  have HLE := Lib.hid hL
                  have hnn : nn ≤ 100000000000 := by omega
                  have s10 := hm10.size
                  clear hrn hns hm10 hL hnl hll
                  go_wp2_with fail
                  go_loopw [9, 11] (fun v i wr => ∃ (q k cv : Nat) (Av : Option Addr) (ys : List ByteArray), q ≤ nn ∧ k ≤ q ∧ i = .int .i64 q ∧ v = .slice Av k cv ∧ k ≤ cv ∧ cv ≤ 9223372036854775807 ∧ wr.ownsRow w10.heap.size 9 1 (.slice Av k cv) k (strs ys) ∧ Hid (OlM w10 L (soOld own) q ys wr)) (fun _ i _ => nn - (intOf i).toNat)
                  case atStart => exact ⟨0, 0, 0, none, [], Nat.zero_le _, Nat.le_refl _, rfl, rfl, Nat.le_refl _, by omega, World.ownsRow_nil _ _ _ _, Mod.refl _ _, rfl⟩
                  case round =>
                    obtain ⟨q, k, cv, Av, ys, hq, hk, rfl, rfl, hkc, hcvm, hown, HP⟩ := hrel
                    rename World => wr
                    have hrow := hown.lt
                    have HOWNR := Lib.hid hown
                    have s11 := HP.out.mod.size
                    clear hown
                    by_cases hlt : q < nn
                    · obtain ⟨b, o, rfl, u, hu, hc⟩ := (HRN.out.mod0 HP.out.mod).at_ hlt
                      unfold strs at hu
                      rw [List.getElem?_map] at hu
                      cases hx : L[q]? with
                      | none => rw [hx] at hu; cases hu
                      | some nm =>
                        rw [hx] at hu
                        simp only [Option.map_some, Option.some.injEq] at hu
                        subst hu
                        have hsn := HNS.out nm (List.mem_of_getElem? hx)
                        have HFS2 := Lib.hid (filter_snoc (so := soOld own) hx)
                        have i1 : (0 : Int) ≤ (q : Int) := by omega
                        have i2 : (q : Int) < (nn : Int) := by omega
                        obtain ⟨z, hz⟩ : ∃ z, (numF manP nm).getD (-1) = z := ⟨_, rfl⟩
                        have hnum : ∀ W, Calls Tryz.prog 111 #[.string ⟨#[109, 97, 110, 47]⟩, .string nm] W fun e w' => e = .returned (.int .i64 z) ∧ Mod Non W w' := fun W => by
                          have := numberR_any manP nm W (by decide) (by omega)
                          rw [hz] at this
                          exact this
                        have HNU := Lib.hid hnum
                        have HCC : Hid (∀ W, Mod Non wr W → W.cell? ⟨b, o + q, none⟩ = some (.string nm)) := fun W hW => hW.cell hc fun h => h
                        have hso : soOld own nm = (decide (0 ≤ z) && decide (nm ≠ own)) := by
                          unfold soOld
                          cases hn : numF manP nm with
                          | none =>
                            rw [hn] at hz
                            rw [← hz]
                            rfl
                          | some x =>
                            rw [hn] at hz
                            have h0 := (numF_some hn).1.1
                            have hzx : x = z := hz
                            rw [← hzx, decide_eq_true h0]
                            rfl
                        have HSO := Lib.hid hso
                        clear hx hz hnum hso hc
                        have c1 := HCC.out wr (Mod.refl _ _)
                        by_cases h0 : 0 ≤ z
                        · have hz1 : decide (0 ≤ z) = true := decide_eq_true h0
                          by_cases hne : nm = own
                          · have hn1 : (nm.toList == own.toList) = true := by rw [hne]; simp
                            have hn2 : (nm.toList != own.toList) = false := by rw [hne]; simp
                            have HSF : Hid ((L.take (q + 1)).filter (soOld own) = (L.take q).filter (soOld own)) := by
                              show _ = _
                              rw [HFS2.out, if_neg (by rw [HSO.out]; simp [hne]), List.append_nil]
                            clear hne
                            go_wp2_with fail
                            refine (HNU.out _).mono ?_
                            rintro e w11 ⟨rfl, hm11⟩
                            have c2 := HCC.out w11 hm11
                            have HM11 := Lib.hid hm11
                            clear hm11 c1
                            go_wp2_with fail
                            go_roundw
                            case rel => exact ⟨q + 1, k, cv, Av, ys, by omega, by omega, by go_num, rfl, hkc, hcvm, own_mod (S := Non) HOWNR.out HM11.out (fun _ _ h => h), HP.out.mod.trans0 HM11.out, by rw [HSF.out]; exact HP.out.eq⟩
                            case measure => simp [intOf]; omega
                          · have hn1 : (nm.toList == own.toList) = false := by
                              rw [beq_eq_false_iff_ne]
                              intro h
                              rw [ByteArray.toList_eq, ByteArray.toList_eq] at h
                              exact hne (ByteArray.ext (Array.ext' h))
                            have hn2 : (nm.toList != own.toList) = true := by rw [bne, hn1]; rfl
                            have HSF : Hid ((L.take (q + 1)).filter (soOld own) = (L.take q).filter (soOld own) ++ [nm]) := by
                              show _ = _
                              rw [HFS2.out, if_pos (by rw [HSO.out, hz1]; simp [hne])]
                            clear hne
                            go_wp2_with fail
                            refine (HNU.out _).mono ?_
                            rintro e w11 ⟨rfl, hm11⟩
                            have c2 := HCC.out w11 hm11
                            have HM11 := Lib.hid hm11
                            have s12 := hm11.size
                            have HOW2 := Lib.hid (own_mod (S := Non) HOWNR.out hm11 (fun _ _ h => h))
                            have HONE := Lib.hid (one_str w11 9 nm)
                            clear hm11 c1
                            go_wp2_with (first
                              | (at_builtin
                                 refine wpList_appStr _ rfl (.tmp 81) (.tmp 86) rfl w10.heap.size (.slice Av k cv) k ys rfl (HOW2.out.alloc _) _ 1 1 [nm] rfl HONE.out (by omega) (by simp; omega) ?_
                                 intro qA qc qw qhc qhcm qown qg qat))
                            have hmg : Mod (fun g => (Value.slice Av k cv).ownBlock = some g) (w11.alloc (.cells #[.string nm] 9)) qw := Mod.of_grown qg fun _ h => h
                            go_roundw
                            case rel =>
                              refine ⟨q + 1, k + 1, qc, qA, ys ++ [nm], by omega, by omega, by go_num, rfl, qhc, qhcm, qown, ?_, by rw [HSF.out, HP.out.eq]⟩
                              exact ((HP.out.mod.trans0 HM11.out).alloc _).trans hmg fun g hg => .inr (hrow g hg).1
                            case measure => simp [intOf]; omega
                        · have hz1 : decide (0 ≤ z) = false := decide_eq_false h0
                          have HSF : Hid ((L.take (q + 1)).filter (soOld own) = (L.take q).filter (soOld own)) := by
                            show _ = _
                            rw [HFS2.out, if_neg (by rw [HSO.out, hz1]; simp), List.append_nil]
                          have h0' : z < 0 := by omega
                          clear h0
                          go_wp2_with fail
                          refine (HNU.out _).mono ?_
                          rintro e w11 ⟨rfl, hm11⟩
                          have HM11 := Lib.hid hm11
                          clear hm11 c1
                          go_wp2_with fail
                          go_roundw
                          case rel => exact ⟨q + 1, k, cv, Av, ys, by omega, by omega, by go_num, rfl, hkc, hcvm, own_mod (S := Non) HOWNR.out HM11.out (fun _ _ h => h), HP.out.mod.trans0 HM11.out, by rw [HSF.out]; exact HP.out.eq⟩
                          case measure => simp [intOf]; omega
                    · have hys : ys = L.filter (soOld own) := by rw [HP.out.eq, List.take_of_length_le (by rw [HLL.out]; omega)]
                      have hrr : R = remL ys D4 := by
                        rw [HRV.out, sweepD_rem _ HOK4.out, HLE.out, hys]
                      have hrd : Rd wr Av k (strs ys) := Rd.of_own HOWNR.out
                      have hsz : ∀ nm ∈ ys, nm.size ≤ 9223372036854775807 := fun nm hm => by
                        rw [hys] at hm
                        have := HNS.out nm (List.mem_filter.1 hm).1
                        omega
                      have s9 := HN4.out.size
                      have hcl : Calls Tryz.prog 112 #[.pointer (some ⟨r, 0, none⟩), .slice Av k cv] wr (RkPost E4 r R.1 (.int .i64 R.2) wr) := by
                        have := remL_any E4 r D4 Av k cv ys wr (HD4.out.mod0 (HM10.out.trans0 HP.out.mod)) HOK4.out ⟨hrd, fun _ b hb e => by
                          have := (hrow b (by rw [own_blk]; exact hb)).1
                          omega⟩ hsz (by omega)
                        rw [← hrr] at this
                        exact this
                      have HCL := Lib.hid hcl
                      clear hys hrr hrd hsz hcl
                      go_wp2_with fail
                      refine HCL.out.mono ?_
                      rintro e w12 ⟨rfl, E5, hd, hm, hsub⟩
                      have HD5 := Lib.hid hd
                      have HN5 : Hid (Mod (fun k => k = r) w w12) := (HN4.out.trans0 (HM10.out.trans0 HP.out.mod)).trans hm fun k hk => .inl hk
                      have HS5 : Hid (∀ k, E5 k → E k ∨ w.heap.size ≤ k) := fun k hk => (hsub k hk).elim (HS4.out k) fun h => .inr (by omega)
                      clear hd hm hsub
                      go_wp2_with fail
                      go_ret
                      exact HFIN.out _ E5 HD5.out HN5.out HS5.out _ rfl
                · have hq1 : (q4 == 0) = false := by simpa using hq
                  have hq2 : (q4 != 0) = true := by rw [bne, hq1]; rfl
                  have hRv : R = (D4, q4) := by rw [HRE4.out, if_neg hq]
                  have HRV := Lib.hid hRv
                  clear hRv hq
                  go_wp2_with fail
                  go_ret
                  exact HFIN.out _ E4 (by rw [HRV.out]; exact HD4.out) HN4.out HS4.out q4 (by rw [HRV.out])
              · have hq1 : (q3 == 0) = false := by simpa using hq
                have hq2 : (q3 != 0) = true := by rw [bne, hq1]; rfl
                have hRv : R = (D3, q3) := by rw [HRE3.out, if_neg hq]
                have HRV := Lib.hid hRv
                clear hRv hq
                go_wp2_with fail
                go_ret
                exact HFIN.out _ E3 (by rw [HRV.out]; exact HD3.out) HN3.out HS3.out q3 (by rw [HRV.out])
            · have hq1 : (q2 == 0) = false := by simpa using hq
              have hq2 : (q2 != 0) = true := by rw [bne, hq1]; rfl
              have hRv : R = (D2, q2) := by rw [HRE2.out, if_neg hq]
              have HRV := Lib.hid hRv
              clear hRv hq
              go_wp2_with fail
              go_ret
              exact HFIN.out _ E2 (by rw [HRV.out]; exact HD2.out) HN2.out HS2.out q2 (by rw [HRV.out])
          · have hq1 : (q1 == 0) = false := by simpa using hq
            have hq2 : (q1 != 0) = true := by rw [bne, hq1]; rfl
            have hRv : R = (D1, q1) := by rw [HRE1.out, if_neg hq]
            have HRV := Lib.hid hRv
            clear hRv hq
            go_wp2_with fail
            go_ret
            exact HFIN.out _ E1 (by rw [HRV.out]; exact HD1.out) HN1.out HS1.out q1 (by rw [HRV.out])
  · rw [if_neg hcv] at HCK
    have HRV : Hid (R = (D, 1)) := by
      show _ = _
      rw [← HR.out]
      unfold saveD
      rw [if_neg (fun h => hcv h.1)]
    clear hcv
    go_enter Tryz.func72, Tryz.ntmps72
    have hb := HBW.out _ (Mod.refl _ _)
    have x0 := hb.cell 0
    go_wp2_with fail
    refine (HCK.out _ HMA.out).mono ?_
    rintro e w1 ⟨rfl, hm1⟩
    have HM1 := Lib.hid hm1
    clear hm1 hb x0
    go_wp2_with fail
    go_ret
    exact HST.out _ (HMA.out.trans0 HM1.out) (by rw [HRV.out]) 1 (by rw [HRV.out])

end Go.Proofs.YtdpjnpjmokncdaaGreatDoor

/- sawyerref11.Clean. -/
namespace Go.Proofs.YtdpjnpjmokncdaaGreatDoor
open Go.RowKit

theorem getD_none {x : Option Int} (h : ∀ v, x = some v → 0 ≤ v) : x.getD (-1) < 0 ↔ x = none := by
  cases x with
  | none => simp
  | some v => have := h v rfl; simp; omega
theorem numF_pos {p nm : ByteArray} : ∀ v, numF p nm = some v → 0 ≤ v := fun _ h => (numF_some h).1.1
/-- cleanQ by the numbers as the reference has them. -/
theorem cleanQ_nums (v : Vs) (nm : ByteArray) (zm zt zw : Int) (hm : (numF manP nm).getD (-1) = zm) (ht : (numF tabP nm).getD (-1) = zt) (hw : (numF logP nm).getD (-1) = zw) :
    cleanQ v nm = (decide (nm = shadN) || ((decide (0 ≤ zm) && decide (zm ≠ v.gen)) || ((decide (0 ≤ zt) && !(v.tables.any fun m => decide (m.num = zt))) || (decide (0 ≤ zw) && decide (zw < v.log))))) := by
  unfold cleanQ
  congr 1
  have e1 : (match numF manP nm with | some n => decide (n ≠ v.gen) | none => false) = (decide (0 ≤ zm) && decide (zm ≠ v.gen)) := by
    cases h : numF manP nm with
    | none => rw [h] at hm; rw [← hm]; rfl
    | some x => rw [h] at hm; have h0 := numF_pos x h; have e : x = zm := hm; rw [← e, decide_eq_true h0, Bool.true_and]
  have e2 : (match numF tabP nm with | some n => !(v.tables.any fun m => decide (m.num = n)) | none => false) = (decide (0 ≤ zt) && !(v.tables.any fun m => decide (m.num = zt))) := by
    cases h : numF tabP nm with
    | none => rw [h] at ht; rw [← ht]; rfl
    | some x => rw [h] at ht; have h0 := numF_pos x h; have e : x = zt := ht; rw [← e, decide_eq_true h0, Bool.true_and]
  have e3 : (match numF logP nm with | some n => decide (n < v.log) | none => false) = (decide (0 ≤ zw) && decide (zw < v.log)) := by
    cases h : numF logP nm with
    | none => rw [h] at hw; rw [← hw]; rfl
    | some x => rw [h] at hw; have h0 := numF_pos x h; have e : x = zw := hw; rw [← e, decide_eq_true h0, Bool.true_and]
  exact congr (congrArg or e1) (congr (congrArg or e2) e3)

set_option maxRecDepth 100000 in
set_option maxHeartbeats 8000000 in
theorem cleanR_any (E : Nat → Prop) (r : Nat) (D : Dk) (x : Vw) (w : World) (h : RkIs w E r D) (ok : DkOk D) (hx : VwOk w x) :
    Calls Tryz.prog 68 #[.pointer (some ⟨r, 0, none⟩), x.val] w (RkPost E r (cleanD D x.v).1 (.int .i64 (cleanD D x.v).2) w) := by
  obtain ⟨R, hR⟩ : ∃ R, cleanD D x.v = R := ⟨_, rfl⟩
  rw [hR]
  have HXO := Lib.hid hx
  obtain ⟨gen, next, log, seq, A, c, ms⟩ := x
  obtain ⟨n, hn⟩ : ∃ n, ms.length = n := ⟨_, rfl⟩
  obtain ⟨V, hV⟩ : ∃ V, Vw.v ⟨gen, next, log, seq, A, c, ms⟩ = V := ⟨_, rfl⟩
  have hgen : V.gen = gen := by rw [← hV]; rfl
  have hlog : V.log = log := by rw [← hV]; rfl
  have htab : V.tables = ms.map (·.m) := by rw [← hV]; rfl
  have hck : ∀ W, Mod Non w W → Calls Tryz.prog 109 #[.agg #[.int .i64 gen, .int .i64 next, .int .i64 log, .int .i64 seq, .slice A n c]] W fun e w' => e = .returned (.int .i64 (if checkV V = true then 0 else 1)) ∧ Mod Non W w' := fun W hW => by
    have := checkR_any ⟨gen, next, log, seq, A, c, ms⟩ W (HXO.out.mod0 hW)
    unfold Vw.val at this
    simp only at this
    rw [hn, hV] at this
    exact this
  have hrow := hx.row
  simp only at hrow
  rw [hn] at hrow
  have hnc := hx.nc
  have hcm := hx.cm
  simp only at hnc hcm
  rw [hn] at hnc
  have HROW := Lib.hid hrow
  have HNN := Lib.hid hn
  have HCK := Lib.hid hck
  have HG := Lib.hid hgen
  have HLG := Lib.hid hlog
  have HTB := Lib.hid htab
  rw [hV] at hR
  have HR := Lib.hid hR
  unfold Vw.val
  simp only
  rw [hn]
  have HBX := Lib.hid (Blk.new w 30 #[.int .i64 gen, .int .i64 next, .int .i64 log, .int .i64 seq, .slice A n c])
  have HMA := Lib.hid ((Mod.refl Non w).alloc (.cells #[.int .i64 gen, .int .i64 next, .int .i64 log, .int .i64 seq, .slice A n c] 30))
  have HBW : Hid (∀ W, Mod Non (w.alloc (.cells #[.int .i64 gen, .int .i64 next, .int .i64 log, .int .i64 seq, .slice A n c] 30)) W → Blk W w.heap.size 30 #[.int .i64 gen, .int .i64 next, .int .i64 log, .int .i64 seq, .slice A n c]) := fun W hW => HBX.out.mod hW fun h => h
  have HH := Lib.hid h
  have HO := Lib.hid ok
  have HST : Hid (∀ w', Mod Non w w' → R.1 = D → ∀ q, R.2 = q → RkPost E r R.1 (.int .i64 R.2) w (.returned (.int .i64 q)) w') := fun w' hm h1 q h2 => by
    rw [h1, h2]
    exact ⟨rfl, E, HH.out.mod0 hm, hm.non, fun k hk => .inl hk⟩
  clear hck hgen hlog htab hV hn h hR hx ok hrow
  by_cases hcv : checkV V = true
  · rw [if_pos hcv] at HCK
    have hRv : R = sweepD (cleanSo V) D := by
      rw [← HR.out]
      unfold cleanD
      rw [if_pos hcv]
    have HRV := Lib.hid hRv
    have hfl := files_len HO.out
    have hns := namesD_size HO.out
    have hnl := namesD_len D HO.out.nd
    have hnr : ∀ W, Mod Non w W → Calls Tryz.prog 110 #[.pointer (some ⟨r, 0, none⟩)] W fun e w' => ∃ A n c, e = .returned (.slice A n c) ∧ Rd w' A n (strs (namesD D)) ∧ n ≤ c ∧ c ≤ 9223372036854775807 ∧ Mod Non W w' := fun W hW =>
      (namesR_any E r D W (HH.out.mod0 hW) (by omega)).mono fun e w' ⟨A, n, c, L, h1, h2, h3, h4, h5, h6, h7⟩ => ⟨A, n, c, h1, by rw [namesD_sorted h2]; exact h3, h4, h5, h7⟩
    have HNR := Lib.hid hnr
    clear hRv hnr hcv
    go_enter Tryz.func68, Tryz.ntmps68
    go_wp2_with fail
    refine (HCK.out _ HMA.out).mono ?_
    rintro e w1 ⟨rfl, hm1⟩
    have HM1 := Lib.hid hm1
    clear hm1
    go_wp2_with fail
    refine (HNR.out _ (HMA.out.trans0 HM1.out)).mono ?_
    rintro e w10 ⟨NA, nn, nc, rfl, hrn, hnc1, hncm, hm10⟩
    obtain ⟨L, hL⟩ : ∃ L, namesD D = L := ⟨_, rfl⟩
    rw [hL] at hrn hns hnl
    have hll : L.length = nn := by have := hrn.1; simpa [strs] using this
    have HLL := Lib.hid hll
    have HRN := Lib.hid hrn
    have HNS := Lib.hid hns
    have HM10 := Lib.hid (HM1.out.trans0 hm10)
    have HMW := Lib.hid (HMA.out.trans0 (HM1.out.trans0 hm10))
    have HLE := Lib.hid hL
    have hnn : nn ≤ 100000000000 := by omega
    have s10 := (HMA.out.trans0 (HM1.out.trans0 hm10)).size
    clear hrn hns hm10 hL hnl hll
    go_wp2_with fail
    go_loopw [5, 7] (fun v i wr => ∃ (q k cv : Nat) (Av : Option Addr) (ys : List ByteArray), q ≤ nn ∧ k ≤ q ∧ i = .int .i64 q ∧ v = .slice Av k cv ∧ k ≤ cv ∧ cv ≤ 9223372036854775807 ∧ wr.ownsRow w10.heap.size 9 1 (.slice Av k cv) k (strs ys) ∧ Hid (OlM w10 L (cleanSo V) q ys wr)) (fun _ i _ => nn - (intOf i).toNat)
    case atStart => exact ⟨0, 0, 0, none, [], Nat.zero_le _, Nat.le_refl _, rfl, rfl, Nat.le_refl _, by omega, World.ownsRow_nil _ _ _ _, Mod.refl _ _, rfl⟩
    case round =>
      obtain ⟨q, k, cv, Av, ys, hq, hk, rfl, rfl, hkc, hcvm, hown, HP⟩ := hrel
      rename World => wr
      have hrow := hown.lt
      have HOWNR := Lib.hid hown
      have s11 := HP.out.mod.size
      clear hown
      by_cases hlt : q < nn
      · obtain ⟨b, o, rfl, u, hu, hc⟩ := (HRN.out.mod0 HP.out.mod).at_ hlt
        unfold strs at hu
        rw [List.getElem?_map] at hu
        cases hx : L[q]? with
        | none => rw [hx] at hu; cases hu
        | some nm =>
          rw [hx] at hu
          simp only [Option.map_some, Option.some.injEq] at hu
          subst hu
          have hsn := HNS.out nm (List.mem_of_getElem? hx)
          have HFS2 := Lib.hid (filter_snoc (so := cleanSo V) hx)
          have i1 : (0 : Int) ≤ (q : Int) := by omega
          have i2 : (q : Int) < (nn : Int) := by omega
          obtain ⟨zm, hzm⟩ : ∃ z, (numF manP nm).getD (-1) = z := ⟨_, rfl⟩
          obtain ⟨zt, hzt⟩ : ∃ z, (numF tabP nm).getD (-1) = z := ⟨_, rfl⟩
          obtain ⟨zw, hzw⟩ : ∃ z, (numF logP nm).getD (-1) = z := ⟨_, rfl⟩
          have hcq := cleanQ_nums V nm zm zt zw hzm hzt hzw
          rw [cleanQ_eq, HG.out, HLG.out] at hcq
          have HCQ := Lib.hid hcq
          have hnum1 : ∀ W, Calls Tryz.prog 111 #[.string ⟨#[109, 97, 110, 47]⟩, .string nm] W fun e w' => e = .returned (.int .i64 zm) ∧ Mod Non W w' := fun W => by
            have := numberR_any manP nm W (by decide) (by omega)
            rw [hzm] at this
            exact this
          have hnum2 : ∀ W, Calls Tryz.prog 111 #[.string ⟨#[116, 97, 98, 47]⟩, .string nm] W fun e w' => e = .returned (.int .i64 zt) ∧ Mod Non W w' := fun W => by
            have := numberR_any tabP nm W (by decide) (by omega)
            rw [hzt] at this
            exact this
          have hnum3 : ∀ W, Calls Tryz.prog 111 #[.string ⟨#[119, 97, 108, 47]⟩, .string nm] W fun e w' => e = .returned (.int .i64 zw) ∧ Mod Non W w' := fun W => by
            have := numberR_any logP nm W (by decide) (by omega)
            rw [hzw] at this
            exact this
          have HN1 := Lib.hid hnum1
          have HN2 := Lib.hid hnum2
          have HN3 := Lib.hid hnum3
          have HCC : Hid (∀ W, Mod Non wr W → W.cell? ⟨b, o + q, none⟩ = some (.string nm)) := fun W hW => hW.cell hc fun h => h
          clear hx hzm hzt hzw hnum1 hnum2 hnum3 hcq hc
          have c1 := HCC.out wr (Mod.refl _ _)
          go_wp2_with fail
          refine (HN1.out _).mono ?_
          rintro e w11 ⟨rfl, hm11⟩
          have c2 := HCC.out w11 hm11
          have HM11 := Lib.hid hm11
          clear hm11 c1
          go_wp2_with fail
          refine (HN2.out _).mono ?_
          rintro e w12 ⟨rfl, hm12⟩
          have HM12 := Lib.hid (HM11.out.trans0 hm12)
          have c3 := HCC.out w12 HM12.out
          clear hm12 c2
          go_wp2_with fail
          refine (HN3.out _).mono ?_
          rintro e w13 ⟨rfl, hm13⟩
          have HM13 := Lib.hid (HM12.out.trans0 hm13)
          have c4 := HCC.out w13 HM13.out
          have hb := HBW.out w13 (HM10.out.trans0 (HP.out.mod.trans0 HM13.out))
          have b0 : w13.cell? ⟨w.heap.size, 0, none⟩ = some (.int .i64 gen) := hb.cell 0
          have b2 : w13.cell? ⟨w.heap.size, 2, none⟩ = some (.int .i64 log) := hb.cell 2
          have b4 : w13.cell? ⟨w.heap.size, 4, none⟩ = some (.slice A n c) := hb.cell 4
          have HR13 := Lib.hid (HROW.out.mod0 (HMW.out.trans0 (HP.out.mod.trans0 HM13.out)))
          have s13 := HM13.out.size
          clear hm13 c3 hb
          go_wp2_with fail
          go_loop [9, 11] (fun t i => ∃ (j : Nat) (tt : Int), j ≤ n ∧ i = .int .i64 j ∧ t = .int .i64 tt ∧ Hid ((tt = zt ∧ ∀ p, p < j → ∀ y, ms[p]? = some y → y.m.num ≠ zt) ∨ (tt = -1 ∧ ∃ y ∈ ms, y.m.num = zt))) (fun _ i => n - (intOf i).toNat)
          case atStart => exact ⟨0, zt, Nat.zero_le _, rfl, rfl, .inl ⟨rfl, fun p hp => absurd hp (by omega)⟩⟩
          case round =>
            obtain ⟨j, tt, hj, rfl, rfl, HI⟩ := hrel
            by_cases hjn : j < n ∧ 0 ≤ tt
            · obtain ⟨hjn, htt⟩ := hjn
              have hI : tt = zt ∧ ∀ p, p < j → ∀ y, ms[p]? = some y → y.m.num ≠ zt := by
                rcases HI.out with h | h
                · exact h
                · omega
              obtain ⟨rfl, hI⟩ := hI
              have HI2 := Lib.hid hI
              obtain ⟨b', o', y, hAe, hy, g0, _, _, _, _⟩ := HR13.out.mw HNN.out hjn
              subst hAe
              have HY := Lib.hid hy
              have j1 : (0 : Int) ≤ (j : Int) := by omega
              have j2 : (j : Int) < (n : Int) := by omega
              clear hI hy
              by_cases hnum : y.m.num = tt
              · have HNE := Lib.hid hnum
                have hn1 : (y.m.num == tt) = true := by simp [hnum]
                rw [hnum] at g0
                clear hnum hn1
                go_wp2_with fail
                go_round
                case rel => exact ⟨j + 1, -1, by omega, by go_num, rfl, .inr ⟨rfl, y, List.mem_of_getElem? HY.out, HNE.out⟩⟩
                case measure => simp [intOf]; omega
              · have hn1 : (y.m.num == tt) = false := beq_eq_false_iff_ne.2 hnum
                have HNE := Lib.hid hnum
                clear hnum
                go_wp2_with fail
                go_round
                case rel =>
                  refine ⟨j + 1, tt, by omega, by go_num, rfl, .inl ⟨rfl, fun p hp z hz => ?_⟩⟩
                  rcases Nat.lt_or_ge p j with h | h
                  · exact HI2.out p h z hz
                  · obtain rfl : p = j := by omega
                    rw [HY.out] at hz
                    cases hz
                    exact HNE.out
                case measure => simp [intOf]; omega
            · have hbt : decide (0 ≤ tt) = (decide (0 ≤ zt) && !(V.tables.any fun m => decide (m.num = zt))) := by
                rw [HTB.out]
                rcases HI.out with ⟨rfl, h⟩ | ⟨rfl, y, hy, hyz⟩
                · by_cases h0 : 0 ≤ tt
                  · have hjn' : ¬ j < n := fun h => hjn ⟨h, h0⟩
                    have ha : ((ms.map (·.m)).any fun m => decide (m.num = tt)) = false := by
                      rw [List.any_eq_false]
                      intro m hm he
                      obtain ⟨y, hy, rfl⟩ := List.mem_map.1 hm
                      obtain ⟨p, hp⟩ := List.mem_iff_getElem?.1 hy
                      have hpl := (List.getElem?_eq_some_iff.1 hp).1
                      rw [HNN.out] at hpl
                      exact h p (by omega) y hp (of_decide_eq_true he)
                    rw [ha]
                    simp
                  · rw [decide_eq_false h0]
                    rfl
                · have ha : ((ms.map (·.m)).any fun m => decide (m.num = zt)) = true := by
                    rw [List.any_eq_true]
                    exact ⟨y.m, List.mem_map.2 ⟨y, hy, rfl⟩, decide_eq_true hyz⟩
                  rw [ha]
                  simp
              rw [← hbt] at HCQ
              have hjd : (n ≤ j ∧ decide ((j : Int) < (n : Int)) = false) ∨ (j < n ∧ (j : Int) < (n : Int) ∧ tt < 0 ∧ decide (0 ≤ tt) = false) := by
                by_cases h1 : j < n
                · exact .inr ⟨h1, by omega, by omega, decide_eq_false fun h => hjn ⟨h1, h⟩⟩
                · exact .inl ⟨by omega, decide_eq_false (by omega)⟩
              clear HI hbt hjn
              have hYES : cleanSo V nm = true → (L.take (q + 1)).filter (cleanSo V) = (L.take q).filter (cleanSo V) ++ [nm] := fun h => by rw [HFS2.out, if_pos h]
              have hNO : cleanSo V nm = false → (L.take (q + 1)).filter (cleanSo V) = (L.take q).filter (cleanSo V) := fun h => by rw [HFS2.out, if_neg (by rw [h]; simp), List.append_nil]
              have HYES := Lib.hid hYES
              have HNO := Lib.hid hNO
              have HONE := Lib.hid (one_str w13 9 nm)
              have HOW2 := Lib.hid (own_mod (S := Non) HOWNR.out HM13.out (fun _ _ h => h))
              clear hYES hNO
              by_cases hsh : nm = shadN
              · have hs1 : (nm.toList == [99, 117, 114, 126]) = true := by rw [hsh, ByteArray.toList_eq]; rfl
                have HSO : Hid (cleanSo V nm = true) := by show _ = _; rw [HCQ.out, decide_eq_true hsh]; rfl
                clear hsh
                rcases hjd with ⟨d0, d1⟩ | ⟨d0, d1, d2, d3⟩
                all_goals
                  go_wp2_with (first
                    | (at_builtin
                       refine wpList_appStr _ rfl (.tmp 86) (.tmp 91) rfl w10.heap.size (.slice Av k cv) k ys rfl (HOW2.out.alloc _) _ 1 1 [nm] rfl HONE.out (by omega) (by simp; omega) ?_
                       intro qA qc qw qhc qhcm qown qg qat))
                  have hmg : Mod (fun g => (Value.slice Av k cv).ownBlock = some g) (w13.alloc (.cells #[.string nm] 9)) qw := Mod.of_grown qg fun _ h => h
                  go_roundw
                  case rel =>
                    refine ⟨q + 1, k + 1, qc, qA, ys ++ [nm], by omega, by omega, by go_num, rfl, qhc, qhcm, qown, ?_, by rw [HYES.out HSO.out, HP.out.eq]⟩
                    exact ((HP.out.mod.trans0 HM13.out).alloc _).trans hmg fun g hg => .inr (hrow g hg).1
                  case measure => simp [intOf]; omega
              · have hs1 : (nm.toList == [99, 117, 114, 126]) = false := by
                  rw [beq_eq_false_iff_ne, ByteArray.toList_eq]
                  intro h
                  exact hsh (ByteArray.ext (Array.ext' h))
                have hcq2 := HCQ.out
                rw [decide_eq_false hsh, Bool.false_or] at hcq2
                have HCQ2 := Lib.hid hcq2
                clear hsh hcq2
                by_cases hm : 0 ≤ zm ∧ zm ≠ gen
                · obtain ⟨hm0, hm1⟩ := hm
                  have hd0 : decide (0 ≤ zm) = true := decide_eq_true hm0
                  have hd1 : (zm == gen) = false := beq_eq_false_iff_ne.2 hm1
                  have hd2 : (zm != gen) = true := by rw [bne, hd1]; rfl
                  have HSO : Hid (cleanSo V nm = true) := by show _ = _; rw [HCQ2.out, hd0, decide_eq_true hm1]; rfl
                  clear hm1
                  rcases hjd with ⟨d0, d1⟩ | ⟨d0, d1, d2, d3⟩
                  all_goals
                    go_wp2_with (first
                      | (at_builtin
                         refine wpList_appStr _ rfl (.tmp 86) (.tmp 91) rfl w10.heap.size (.slice Av k cv) k ys rfl (HOW2.out.alloc _) _ 1 1 [nm] rfl HONE.out (by omega) (by simp; omega) ?_
                         intro qA qc qw qhc qhcm qown qg qat))
                    have hmg : Mod (fun g => (Value.slice Av k cv).ownBlock = some g) (w13.alloc (.cells #[.string nm] 9)) qw := Mod.of_grown qg fun _ h => h
                    go_roundw
                    case rel =>
                      refine ⟨q + 1, k + 1, qc, qA, ys ++ [nm], by omega, by omega, by go_num, rfl, qhc, qhcm, qown, ?_, by rw [HYES.out HSO.out, HP.out.eq]⟩
                      exact ((HP.out.mod.trans0 HM13.out).alloc _).trans hmg fun g hg => .inr (hrow g hg).1
                    case measure => simp [intOf]; omega
                · have hmd : (decide (0 ≤ zm) && decide (zm ≠ gen)) = false := by
                    by_cases h0 : 0 ≤ zm
                    · rw [decide_eq_true h0, decide_eq_false (fun h => hm ⟨h0, h⟩)]
                      rfl
                    · rw [decide_eq_false h0]
                      rfl
                  have hcq3 := HCQ2.out
                  rw [hmd, Bool.false_or] at hcq3
                  have HCQ3 := Lib.hid hcq3
                  have hm3 : (decide (0 ≤ zm) = false ∧ zm < 0) ∨ (decide (0 ≤ zm) = true ∧ 0 ≤ zm ∧ (zm == gen) = true ∧ (zm != gen) = false) := by
                    by_cases h0 : 0 ≤ zm
                    · have he : zm = gen := Decidable.byContradiction fun h => hm ⟨h0, h⟩
                      exact .inr ⟨decide_eq_true h0, h0, by simp [he], by simp [he]⟩
                    · exact .inl ⟨decide_eq_false h0, by omega⟩
                  clear hm hmd hcq3
                  by_cases ht : 0 ≤ tt
                  · have ht1 : decide (0 ≤ tt) = true := decide_eq_true ht
                    have HSO : Hid (cleanSo V nm = true) := by show _ = _; rw [HCQ3.out, ht1]; rfl
                    have hjd2 := hjd.resolve_right (fun h => by omega)
                    clear hjd
                    obtain ⟨d0, d1⟩ := hjd2
                    rcases hm3 with ⟨hd0, hd1⟩ | ⟨hd0, hd1, hd2, hd3⟩
                    all_goals
                      go_wp2_with (first
                        | (at_builtin
                           refine wpList_appStr _ rfl (.tmp 86) (.tmp 91) rfl w10.heap.size (.slice Av k cv) k ys rfl (HOW2.out.alloc _) _ 1 1 [nm] rfl HONE.out (by omega) (by simp; omega) ?_
                           intro qA qc qw qhc qhcm qown qg qat))
                      have hmg : Mod (fun g => (Value.slice Av k cv).ownBlock = some g) (w13.alloc (.cells #[.string nm] 9)) qw := Mod.of_grown qg fun _ h => h
                      go_roundw
                      case rel =>
                        refine ⟨q + 1, k + 1, qc, qA, ys ++ [nm], by omega, by omega, by go_num, rfl, qhc, qhcm, qown, ?_, by rw [HYES.out HSO.out, HP.out.eq]⟩
                        exact ((HP.out.mod.trans0 HM13.out).alloc _).trans hmg fun g hg => .inr (hrow g hg).1
                      case measure => simp [intOf]; omega
                  · have ht1 : decide (0 ≤ tt) = false := decide_eq_false ht
                    have ht2 : tt < 0 := by omega
                    have hcq4 := HCQ3.out
                    rw [ht1, Bool.false_or] at hcq4
                    have HCQ4 := Lib.hid hcq4
                    clear ht hcq4
                    by_cases hw : 0 ≤ zw
                    · have hw1 : decide (0 ≤ zw) = true := decide_eq_true hw
                      by_cases hl : zw < log
                      · have hl1 : decide (zw < log) = true := decide_eq_true hl
                        have HSO : Hid (cleanSo V nm = true) := by show _ = _; rw [HCQ4.out, hw1, hl1]; rfl
                        rcases hm3 with ⟨hd0, hd1⟩ | ⟨hd0, hd1, hd2, hd3⟩
                        all_goals
                          rcases hjd with ⟨d0, d1⟩ | ⟨d0, d1, d2, d3⟩
                          all_goals
                            go_wp2_with (first
                              | (at_builtin
                                 refine wpList_appStr _ rfl (.tmp 86) (.tmp 91) rfl w10.heap.size (.slice Av k cv) k ys rfl (HOW2.out.alloc _) _ 1 1 [nm] rfl HONE.out (by omega) (by simp; omega) ?_
                                 intro qA qc qw qhc qhcm qown qg qat))
                            have hmg : Mod (fun g => (Value.slice Av k cv).ownBlock = some g) (w13.alloc (.cells #[.string nm] 9)) qw := Mod.of_grown qg fun _ h => h
                            go_roundw
                            case rel =>
                              refine ⟨q + 1, k + 1, qc, qA, ys ++ [nm], by omega, by omega, by go_num, rfl, qhc, qhcm, qown, ?_, by rw [HYES.out HSO.out, HP.out.eq]⟩
                              exact ((HP.out.mod.trans0 HM13.out).alloc _).trans hmg fun g hg => .inr (hrow g hg).1
                            case measure => simp [intOf]; omega
                      · have hl1 : decide (zw < log) = false := decide_eq_false hl
                        have hl2 : log ≤ zw := by omega
                        have HSO : Hid (cleanSo V nm = false) := by show _ = _; rw [HCQ4.out, hw1, hl1]; rfl
                        clear hl
                        rcases hm3 with ⟨hd0, hd1⟩ | ⟨hd0, hd1, hd2, hd3⟩
                        all_goals
                          rcases hjd with ⟨d0, d1⟩ | ⟨d0, d1, d2, d3⟩
                          all_goals
                            go_wp2_with fail
                            go_roundw
                            case rel => exact ⟨q + 1, k, cv, Av, ys, by omega, by omega, by go_num, rfl, hkc, hcvm, HOW2.out, HP.out.mod.trans0 HM13.out, by rw [HNO.out HSO.out]; exact HP.out.eq⟩
                            case measure => simp [intOf]; omega
                    · have hw1 : decide (0 ≤ zw) = false := decide_eq_false hw
                      have hw2 : zw < 0 := by omega
                      have HSO : Hid (cleanSo V nm = false) := by show _ = _; rw [HCQ4.out, hw1]; rfl
                      clear hw
                      rcases hm3 with ⟨hd0, hd1⟩ | ⟨hd0, hd1, hd2, hd3⟩
                      all_goals
                        rcases hjd with ⟨d0, d1⟩ | ⟨d0, d1, d2, d3⟩
                        all_goals
                          go_wp2_with fail
                          go_roundw
                          case rel => exact ⟨q + 1, k, cv, Av, ys, by omega, by omega, by go_num, rfl, hkc, hcvm, HOW2.out, HP.out.mod.trans0 HM13.out, by rw [HNO.out HSO.out]; exact HP.out.eq⟩
                          case measure => simp [intOf]; omega
      · have hys : ys = L.filter (cleanSo V) := by rw [HP.out.eq, List.take_of_length_le (by rw [HLL.out]; omega)]
        have hrr : R = remL ys D := by
          rw [HRV.out, sweepD_rem _ HO.out, HLE.out, hys]
        have hrd : Rd wr Av k (strs ys) := Rd.of_own HOWNR.out
        have hsz : ∀ nm ∈ ys, nm.size ≤ 9223372036854775807 := fun nm hm => by
          rw [hys] at hm
          have := HNS.out nm (List.mem_filter.1 hm).1
          omega
        have hrw : r < w.heap.size := HH.out.elt r HH.out.rE
        have hcl : Calls Tryz.prog 112 #[.pointer (some ⟨r, 0, none⟩), .slice Av k cv] wr (RkPost E r R.1 (.int .i64 R.2) wr) := by
          have := remL_any E r D Av k cv ys wr (HH.out.mod0 (HMW.out.trans0 HP.out.mod)) HO.out ⟨hrd, fun _ b hb e => by
            have := (hrow b (by rw [own_blk]; exact hb)).1
            omega⟩ hsz (by omega)
          rw [← hrr] at this
          exact this
        have HCL := Lib.hid hcl
        clear hys hrr hrd hsz hcl
        go_wp2_with fail
        refine HCL.out.mono ?_
        rintro e w12 ⟨rfl, E5, hd, hm, hsub⟩
        have HD5 := Lib.hid hd
        have HN5 : Hid (Mod (fun k => k = r) w w12) := (HMW.out.trans0 HP.out.mod).non.trans hm fun k hk => .inl hk
        have HS5 : Hid (∀ k, E5 k → E k ∨ w.heap.size ≤ k) := fun k hk => (hsub k hk).imp id fun h => by omega
        clear hd hm hsub
        go_wp2_with fail
        go_ret
        exact ⟨rfl, E5, HD5.out, HN5.out, HS5.out⟩
  · rw [if_neg hcv] at HCK
    have HRV : Hid (R = (D, 1)) := by
      show _ = _
      rw [← HR.out]
      unfold cleanD
      rw [if_neg hcv]
    clear hcv
    go_enter Tryz.func68, Tryz.ntmps68
    go_wp2_with fail
    refine (HCK.out _ HMA.out).mono ?_
    rintro e w1 ⟨rfl, hm1⟩
    have HM1 := Lib.hid hm1
    clear hm1
    go_wp2_with fail
    go_ret
    exact HST.out _ (HMA.out.trans0 HM1.out) (by rw [HRV.out]) 1 (by rw [HRV.out])

end Go.Proofs.YtdpjnpjmokncdaaGreatDoor
