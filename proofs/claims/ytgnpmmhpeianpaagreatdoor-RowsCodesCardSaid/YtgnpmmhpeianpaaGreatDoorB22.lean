/- txn: open, Get. -/
import Derived.Test.YtgnpmmhpeianpaaGreatDoorB13
import Derived.Test.YtgnpmmhpeianpaaGreatDoorB14
import Derived.Test.YtgnpmmhpeianpaaGreatDoorB03
import Derived.Test.YtgnpmmhpeianpaaGreatDoorB01
import Derived.Deep.RegionHeld3
import Derived.Test.YtgnpmmhpeianpaaGreatDoorB08
namespace Go.Proofs.YtgnpmmhpeianpaaGreatDoor
open Go.RowKit

set_option maxRecDepth 100000 in
set_option maxHeartbeats 400000 in
theorem open_any (t e : Nat) (done : Bool) (w : World) (h0 : w.cell? ⟨t, 0, none⟩ = some (.pointer (some ⟨e, 0, none⟩))) (h2 : w.cell? ⟨t, 2, none⟩ = some (.bool done)) :
    Calls Tryz.prog 156 #[.pointer (some ⟨t, 0, none⟩)] w fun r w' => r = .returned (.int .i64 (if done = true then 15 else 0)) ∧ w = w' := by
  cases done
  all_goals
    go_enter Tryz.func156, Tryz.ntmps156
    go_wp2
    go_ret
    exact ⟨rfl, rfl⟩

theorem zeroCh (w : World) : (zeroValue 229).run Tryz.prog w = .ok (.agg #[.slice none 0 0, .bool false, .slice none 0 0]) w := by kernel_rfl

/-- what Get answers. -/
def TgPost (k : List UInt8) (cs : List Ch) (w : World) (e : Ending) (w' : World) : Prop := match findC cs k with
  | none => e = .returned (.tuple #[.slice none 0 0, .int .i64 6]) ∧ Mod Non w w'
  | some c => if c.gone = true then e = .returned (.tuple #[.slice none 0 0, .int .i64 6]) ∧ Mod Non w w'
    else ∃ A c', e = .returned (.tuple #[.slice A c.val.length c', .int .i64 0]) ∧ Rd w' A c.val.length (by8 c.val) ∧ (c.val.length ≤ c' ∧ c' ≤ 9223372036854775807) ∧ Mod Non w w'

set_option maxRecDepth 100000 in
set_option maxHeartbeats 4000000 in
/-- Get, where the engine has nothing. -/
theorem tget_any (F : Nat → Prop) (t e : Nat) (T : Tx) (KA : Option Addr) (kn kc : Nat) (k : List UInt8) (w : World) (h : TxIs w F t e T) (hd : T.done = false) (hk : Rd w KA kn (by8 k)) (hvl : ∀ c ∈ T.writes, c.val.length ≤ 100000)
    (hg : ∀ W, Mod Non w W → Calls Tryz.prog 157 #[.pointer (some ⟨e, 0, none⟩), .slice KA kn kc, .int .i64 T.seq] W fun r w' => r = .returned (.tuple #[.slice none 0 0, .int .i64 6]) ∧ Mod Non W w') :
    Calls Tryz.prog 88 #[.pointer (some ⟨t, 0, none⟩), .slice KA kn kc] w (TgPost k T.writes w) := by
  obtain ⟨G, wm, gm, kvs, h1, _, _, _, _, _, _⟩ := h
  obtain ⟨seq, done, writes, guards⟩ := T
  simp only at hd hg hvl
  subst hd
  have hc : ∀ W, Mod Non w W → ∀ i, W.cell? ⟨t, i, none⟩ = (txCells e wm gm ⟨seq, false, writes, guards⟩)[i]? := fun W hm i => (h1.mod0 hm).blk.cell i
  have hcv : ∀ W, Mod Non w W → (convert 27 9 (.slice KA kn kc)).run Tryz.prog W = .ok (.string ⟨k.toArray⟩) W := fun W hm => conv_str W 27 9 5 KA kn kc k Tryz.underlying27 Tryz.underlying5 Tryz.underlying9 (hk.mod0 hm)
  have hlk : ∀ W, Mod Non w W → (Instr.lookup 249 (.map (some wm)) (.string ⟨k.toArray⟩) true).run Tryz.prog W = .ok (.tuple #[(lookKV kvs ⟨k.toArray⟩).getD (.agg #[.slice none 0 0, .bool false, .slice none 0 0]), .bool (lookKV kvs ⟨k.toArray⟩).isSome]) W := fun W hm =>
    (h1.mod0 hm).wmap.run_look (P := Tryz.prog) strKey Tryz.underlying249 Tryz.underlying9 (zeroCh W) ⟨k.toArray⟩ true
  have HC := Lib.hid hc
  have HCV := Lib.hid hcv
  have HG := Lib.hid hg
  have c0 : w.cell? ⟨t, 0, none⟩ = some (.pointer (some ⟨e, 0, none⟩)) := hc w (Mod.refl _ _) 0
  have c2 : w.cell? ⟨t, 2, none⟩ = some (.bool false) := hc w (Mod.refl _ _) 2
  clear hc hcv hg
  cases hf : findC writes k with
  | none =>
    rw [h1.chs.none_ k hf] at hlk
    have HLK := Lib.hid hlk
    have HF := Lib.hid hf
    have HS : Hid (∀ W, Mod Non w W → Mod Non w W ∧ W.cell? ⟨t, 3, none⟩ = some (.map (some wm)) ∧ (convert 27 9 (.slice KA kn kc)).run Tryz.prog W = .ok (.string ⟨k.toArray⟩) W ∧ (Instr.lookup 249 (.map (some wm)) (.string ⟨k.toArray⟩) true).run Tryz.prog W = .ok (.tuple #[.agg #[.slice none 0 0, .bool false, .slice none 0 0], .bool false]) W) :=
      fun W hm => ⟨hm, HC.out W hm 3, HCV.out W hm, HLK.out W hm⟩
    clear hlk hf h1 hk
    go_enter Tryz.func88, Tryz.ntmps88
    go_wp2_with fail
    refine (open_any t e false w c0 c2).mono ?_
    rintro r w1 ⟨rfl, rfl⟩
    obtain ⟨h0, h3, hv, hl⟩ := HS.out w (Mod.refl _ _)
    go_wp2_with fail
    go_region_held3 (fun w' => Mod Non w w' ∧ w'.cell? ⟨t, 3, none⟩ = some (.map (some wm)) ∧ (convert 27 9 (.slice KA kn kc)).run Tryz.prog w' = .ok (.string ⟨k.toArray⟩) w' ∧ (Instr.lookup 249 (.map (some wm)) (.string ⟨k.toArray⟩) true).run Tryz.prog w' = .ok (.tuple #[.agg #[.slice none 0 0, .bool false, .slice none 0 0], .bool false]) w')
      (first | (exact HS.out _ (Mod.drew (by first | assumption | exact Mod.refl _ _))) | (exact HS.out _ (Mod.alloc (Mod.drew (Mod.refl _ _)) _)) | (exact HS.out _ (Mod.setCell (Mod.alloc (Mod.drew (Mod.refl _ _)) _) (.inr (Nat.le_refl _)) _)) | go_keep)
      (first | fail)
    all_goals
      have hm1 : Mod Non w (w.alloc (.cells #[.slice none 0 0, .bool false, .slice none 0 0] 229)).drew := ((Mod.refl Non w).alloc _).drew
      generalize (w.alloc (.cells #[.slice none 0 0, .bool false, .slice none 0 0] 229)).drew = w1 at *
      have HM1 := Lib.hid hm1
      have hd1 : Mod Non w { w1 with drawn := w1.drawn + 1 } := hm1.drew
      have d0 : ∀ x : WorldOf (Mod Non w), x.W.cell? ⟨t, 0, none⟩ = some (.pointer (some ⟨e, 0, none⟩)) := fun x => HC.out x.W x.ok 0
      have d1 : ∀ x : WorldOf (Mod Non w), x.W.cell? ⟨t, 1, none⟩ = some (.int .i64 seq) := fun x => HC.out x.W x.ok 1
      have hne : Nonempty (WorldOf (Mod Non w)) := ⟨⟨w, Mod.refl _ _⟩⟩
      clear hm1 c0 c2 h0 h3 hv hl
      go_wp2_with fail
      refine wp_region_class (S := Mod Non w) (by kernel_rfl) (by kernel_rfl) hd1 ?_
      repeat (go_big_quiet_step ((go_at_call 157; exact Calls.quiet_class (HG.out _ (WorldOf.ok _)))))
      refine wpQuiet_nil ?_
      rintro ⟨w3, hm3⟩
      dsimp only
      have HM3 := Lib.hid hm3
      clear hm3
      go_wp2_with fail
      go_ret2
      unfold TgPost
      rw [HF.out]
      exact ⟨rfl, HM3.out⟩
  | some c =>
    obtain ⟨v, hv0, ⟨A, B, ca, cb, rfl, -, hrb, -, hcb, -, -⟩, hck⟩ := h1.chs.some_ k hf
    have hcl := hvl c (by
      clear hv0 hlk HC HCV HG c0 c2 h1
      induction writes with
      | nil => cases hf
      | cons a r ih =>
        rw [findC] at hf
        split at hf
        · cases hf; exact .head _
        · exact .tail _ (ih (fun c hc => hvl c (.tail _ hc)) hf))
    obtain ⟨ck, cg, cv⟩ := c
    simp only at hck hrb hcb hcl hv0
    subst hck
    obtain ⟨n1, hn1⟩ : ∃ n1, ck.length = n1 := ⟨_, rfl⟩
    obtain ⟨n2, hn2⟩ : ∃ n2, cv.length = n2 := ⟨_, rfl⟩
    rw [hn1, hn2] at hv0
    rw [hn2] at hrb hcb hcl
    rw [hv0] at hlk
    have HLK := Lib.hid hlk
    have HF := Lib.hid hf
    have HN2 := Lib.hid hn2
    have HRB := Lib.hid hrb
    have HS : Hid (∀ W, Mod Non w W → Mod Non w W ∧ W.cell? ⟨t, 3, none⟩ = some (.map (some wm)) ∧ (convert 27 9 (.slice KA kn kc)).run Tryz.prog W = .ok (.string ⟨ck.toArray⟩) W ∧ (Instr.lookup 249 (.map (some wm)) (.string ⟨ck.toArray⟩) true).run Tryz.prog W = .ok (.tuple #[.agg #[.slice A n1 ca, .bool cg, .slice B n2 cb], .bool true]) W) :=
      fun W hm => ⟨hm, HC.out W hm 3, HCV.out W hm, HLK.out W hm⟩
    clear hlk hf h1 hk hv0 hn1 hn2 hrb
    go_enter Tryz.func88, Tryz.ntmps88
    go_wp2_with fail
    refine (open_any t e false w c0 c2).mono ?_
    rintro r w1 ⟨rfl, rfl⟩
    obtain ⟨h0, h3, hv, hl⟩ := HS.out w (Mod.refl _ _)
    go_wp2_with fail
    go_region_held3 (fun w' => Mod Non w w' ∧ w'.cell? ⟨t, 3, none⟩ = some (.map (some wm)) ∧ (convert 27 9 (.slice KA kn kc)).run Tryz.prog w' = .ok (.string ⟨ck.toArray⟩) w' ∧ (Instr.lookup 249 (.map (some wm)) (.string ⟨ck.toArray⟩) true).run Tryz.prog w' = .ok (.tuple #[.agg #[.slice A n1 ca, .bool cg, .slice B n2 cb], .bool true]) w')
      (first | (exact HS.out _ (Mod.drew (by first | assumption | exact Mod.refl _ _))) | (exact HS.out _ (Mod.alloc (Mod.drew (Mod.refl _ _)) _)) | (exact HS.out _ (Mod.setCell (Mod.alloc (Mod.drew (Mod.refl _ _)) _) (.inr (Nat.le_refl _)) _)) | go_keep)
      (first | fail)
    all_goals
      have hm1 : Mod Non w (w.alloc (.cells #[.slice A n1 ca, .bool cg, .slice B n2 cb] 229)).drew := ((Mod.refl Non w).alloc _).drew
      have hb1 : Blk (w.alloc (.cells #[.slice A n1 ca, .bool cg, .slice B n2 cb] 229)).drew w.heap.size 229 #[.slice A n1 ca, .bool cg, .slice B n2 cb] := (Blk.new _ _ _).drew
      generalize (w.alloc (.cells #[.slice A n1 ca, .bool cg, .slice B n2 cb] 229)).drew = w1 at *
      have HM1 := Lib.hid hm1
      have k1 : w1.cell? ⟨w.heap.size, 1, none⟩ = some (.bool cg) := hb1.cell 1
      have k2 : w1.cell? ⟨w.heap.size, 2, none⟩ = some (.slice B n2 cb) := hb1.cell 2
      have HR1 := Lib.hid (HRB.out.mod0 hm1)
      clear hm1 c0 c2 h0 h3 hv hl hb1
      cases cg with
      | true =>
        go_wp2_with fail
        go_ret2
        unfold TgPost
        rw [HF.out]
        exact ⟨rfl, HM1.out⟩
      | false =>
        go_wp2_with fail
        refine (clone_any B n2 cb cv w1 HR1.out (by omega)).mono ?_
        rintro r w2 ⟨A2, c2, rfl, ho2, hb2⟩
        obtain ⟨A2', c2', he, hc1, hc2⟩ := own_slice ho2
        cases he
        have HR2 := Lib.hid (Rd.of_own ho2)
        have HM2 := Lib.hid (HM1.out.trans0 (Mod.of_below hb2))
        have hmx : maxLen = 9223372036854775807 := rfl
        clear ho2 hb2
        go_wp2_with fail
        go_ret2
        unfold TgPost
        rw [HF.out]
        simp only [Bool.false_eq_true, if_false]
        rw [HN2.out]
        exact ⟨A2, c2, rfl, HR2.out, ⟨hc1, by omega⟩, HM2.out⟩

end Go.Proofs.YtgnpmmhpeianpaaGreatDoor

/- skip.Check where it answers OK; txn.write, Put where they answer OK. -/
namespace Go.Proofs.YtgnpmmhpeianpaaGreatDoor
open Go.RowKit

set_option maxRecDepth 100000 in
set_option maxHeartbeats 400000 in
theorem check_ok (A B : Option Addr) (n m c d : Nat) (seq : Int) (gone : Bool) (w : World) (h1 : 1 ≤ n) (h2 : n ≤ 64) (h3 : 0 ≤ seq) (h4 : seq ≤ 1099511627776) (h5 : m ≤ 1024) (h6 : gone = true → m = 0) :
    Calls Tryz.prog 192 #[.agg #[.slice A n c, .int .i64 seq, .bool gone, .slice B m d]] w fun e w' => e = .returned (.int .i64 0) ∧ Mod Non w w' := by
  have hm : Mod Non w (w.alloc (.cells #[.slice A n c, .int .i64 seq, .bool gone, .slice B m d] 165)) := (Mod.refl Non w).alloc _
  have HM := Lib.hid hm
  have d1 : decide (1 ≤ (n : Int)) = true := decide_eq_true (by omega)
  have d2 : decide ((n : Int) ≤ 64) = true := decide_eq_true (by omega)
  have d3 : decide (0 ≤ seq) = true := decide_eq_true h3
  have d4 : decide (seq ≤ 1099511627776) = true := decide_eq_true h4
  have d5 : decide ((m : Int) ≤ 1024) = true := decide_eq_true (by omega)
  clear hm
  cases gone with
  | false =>
    clear h6
    go_enter Tryz.func192, Tryz.ntmps192
    go_wp2_with fail
    go_ret
    exact ⟨rfl, HM.out⟩
  | true =>
    have h0 := h6 rfl
    subst h0
    clear h6
    go_enter Tryz.func192, Tryz.ntmps192
    go_wp2_with fail
    go_ret
    exact ⟨rfl, HM.out⟩

/-- a change laid into the map: the transaction behind it. -/
theorem TxIs.put {w w5 w6 : World} {F G : Nat → Prop} {t e wm gm : Nat} {kvs : List (ByteArray × Value)} {seq : Int} {writes : List Ch} {guards : List (List UInt8)} (h : TxAt w G t e wm gm kvs ⟨seq, false, writes, guards⟩)
    (f1 : F t) (f2 : F wm) (f3 : F gm) (f4 : ∀ k, G k → F k) (f5 : ¬ F powG) (f6 : ∀ k, F k → k < w.heap.size) (hp : powG < w.heap.size) {k v : List UInt8} {gone : Bool} {kn vn c3 c4 : Nat} {A3 A4 : Option Addr} (hm : Mod Non w w5)
    (hnk : k.length = kn) (hnv : v.length = vn) (r3 : Rd w5 A3 kn (by8 k)) (r4 : Rd w5 A4 vn (by8 v)) (b3 : ∀ b, blkOf A3 = some b → w.heap.size ≤ b ∧ b < w5.heap.size) (b4 : ∀ b, blkOf A4 = some b → w.heap.size ≤ b ∧ b < w5.heap.size) (n3 : kn ≤ c3 ∧ c3 ≤ 9223372036854775807) (n4 : vn ≤ c4 ∧ c4 ≤ 9223372036854775807)
    (hput : MapAt Value.string w6 wm (putKV kvs ⟨k.toArray⟩ (.agg #[.slice A3 kn c3, .bool gone, .slice A4 vn c4]))) (hm6 : Mod (fun i => i = wm) w5 w6) :
    ∃ F', TxIs w6 F' t e ⟨seq, false, putC writes ⟨k, gone, v⟩, guards⟩ ∧ Mod F w w6 ∧ ∀ i, F' i → F i ∨ w.heap.size ≤ i := by
  subst hnk
  subst hnv
  have h5 := h.mod0 hm
  have hwl := f6 _ f2
  have htl := f6 _ f1
  have hgl := f6 _ f3
  have hsz := hm6.size
  have hG' : ∀ i, (G i ∨ blkOf A3 = some i ∨ blkOf A4 = some i) → i ≠ t ∧ i ≠ wm ∧ i ≠ gm ∧ (F i ∨ (w.heap.size ≤ i ∧ i < w6.heap.size)) := fun i hi => by
    rcases hi with hi | hi | hi
    · have := h.gl i hi
      exact ⟨this.1, this.2.1, this.2.2, .inl (f4 i hi)⟩
    · have := b3 i hi
      exact ⟨by omega, by omega, by omega, .inr ⟨by omega, by omega⟩⟩
    · have := b4 i hi
      exact ⟨by omega, by omega, by omega, .inr ⟨by omega, by omega⟩⟩
  have hv : ChV w6 (fun i => G i ∨ blkOf A3 = some i ∨ blkOf A4 = some i) (.agg #[.slice A3 k.length c3, .bool gone, .slice A4 v.length c4]) ⟨k, gone, v⟩ :=
    ⟨A3, A4, c3, c4, rfl, r3.mod hm6 (fun _ b hb e => (hG' b (.inr (.inl hb))).2.1 e), r4.mod hm6 (fun _ b hb e => (hG' b (.inr (.inr hb))).2.1 e), n3, n4, fun b hb => .inr (.inl hb), fun b hb => .inr (.inr hb)⟩
  refine ⟨fun i => F i ∨ (w.heap.size ≤ i ∧ i < w6.heap.size), ⟨_, wm, gm, _, ⟨h5.blk.mod hm6 h.tw, hput, ChsAt.put (c := ⟨k, gone, v⟩) hv (h5.chs.mod hm6 (fun i hi => (h.gl i hi).2.1) fun i hi => .inl hi), h5.gmap.mod hm6 (fun e => h.wg e.symm), h.tw, h.tg, h.wg, fun i hi => ⟨(hG' i hi).1, (hG' i hi).2.1, (hG' i hi).2.2.1⟩⟩, .inl f1, .inl f2, .inl f3, fun i hi => (hG' i hi).2.2.2, fun hh => ?_, fun i hi => ?_⟩, ?_, fun i hi => hi.imp id fun h => h.1⟩
  · rcases hh with hh | hh
    · exact f5 hh
    · omega
  · rcases hi with hi | hi
    · have := f6 i hi
      have := hm.size
      omega
    · exact hi.2
  · exact (hm.non (S := F)).trans hm6 fun i hi => .inl (by rw [hi]; exact f2)

set_option maxRecDepth 100000 in
set_option maxHeartbeats 4000000 in
theorem twrite_ok (F : Nat → Prop) (t e : Nat) (T : Tx) (KA VA : Option Addr) (kn kc vn vc : Nat) (k v : List UInt8) (gone : Bool) (w : World) (h : TxIs w F t e T) (hd : T.done = false) (hk : Rd w KA kn (by8 k)) (hv : Rd w VA vn (by8 v))
    (h1 : 1 ≤ kn) (h2 : kn ≤ 64) (h5 : vn ≤ 1024) (h6 : gone = true → vn = 0) (hw : (findC T.writes k).isSome = true ∨ T.writes.length < 256) (hpl : powG < w.heap.size) :
    Calls Tryz.prog 158 #[.pointer (some ⟨t, 0, none⟩), .agg #[.slice KA kn kc, .bool gone, .slice VA vn vc]] w fun r w' => r = .returned (.int .i64 0) ∧ ∃ F', TxIs w' F' t e { T with writes := putC T.writes ⟨k, gone, v⟩ } ∧ Mod F w w' ∧ ∀ i, F' i → F i ∨ w.heap.size ≤ i := by
  obtain ⟨G, wm, gm, kvs, ht, f1, f2, f3, f4, f5, f6⟩ := h
  obtain ⟨seq, done, writes, guards⟩ := T
  simp only at hd hw
  subst hd
  have hbx := Blk.new w 229 #[.slice KA kn kc, .bool gone, .slice VA vn vc]
  have hm0 : Mod Non w (w.alloc (.cells #[.slice KA kn kc, .bool gone, .slice VA vn vc] 229)) := (Mod.refl Non w).alloc _
  have hc : ∀ W, Mod Non w W → ∀ i, W.cell? ⟨t, i, none⟩ = (txCells e wm gm ⟨seq, false, writes, guards⟩)[i]? := fun W hm i => (ht.mod0 hm).blk.cell i
  have hcv : ∀ W, Mod Non w W → (convert 27 9 (.slice KA kn kc)).run Tryz.prog W = .ok (.string ⟨k.toArray⟩) W := fun W hm => conv_str W 27 9 5 KA kn kc k Tryz.underlying27 Tryz.underlying5 Tryz.underlying9 (hk.mod0 hm)
  obtain ⟨lb, hlb⟩ : ∃ lb, (lookKV kvs ⟨k.toArray⟩).isSome = lb := ⟨_, rfl⟩
  obtain ⟨A1, n1, p1, g1, B1, n2, p2, hlv⟩ : ∃ A1 n1 p1 g1 B1 n2 p2, (lookKV kvs ⟨k.toArray⟩).getD (.agg #[.slice none 0 0, .bool false, .slice none 0 0]) = .agg #[.slice A1 n1 p1, .bool g1, .slice B1 n2 p2] := by
    cases hf : findC writes k with
    | none => exact ⟨none, 0, 0, false, none, 0, 0, by rw [ht.chs.none_ k hf]; rfl⟩
    | some c =>
      obtain ⟨x, hx, ⟨A, B, ca, cb, rfl, _⟩, _⟩ := ht.chs.some_ k hf
      exact ⟨A, _, ca, _, B, _, cb, by rw [hx]; rfl⟩
  have hlk : ∀ W, Mod Non w W → (Instr.lookup 249 (.map (some wm)) (.string ⟨k.toArray⟩) true).run Tryz.prog W = .ok (.tuple #[.agg #[.slice A1 n1 p1, .bool g1, .slice B1 n2 p2], .bool lb]) W := fun W hm => by
    have := (ht.mod0 hm).wmap.run_look (P := Tryz.prog) strKey Tryz.underlying249 Tryz.underlying9 (zeroCh W) ⟨k.toArray⟩ true
    rw [if_pos rfl, hlv, hlb] at this
    exact this
  have hlen : lb = false → kvs.length < 256 := fun hb => by
    rw [ht.chs.len]
    rcases hw with hw | hw
    · obtain ⟨c, hf⟩ := Option.isSome_iff_exists.1 hw
      obtain ⟨x, hx, _⟩ := ht.chs.some_ k hf
      rw [hx] at hlb
      rw [← hlb] at hb
      cases hb
    · exact hw
  have hln : ∀ W, Mod Non w W → (Builtin.len_ #[249] 3 #[.map (some wm)]).run Tryz.prog W = .ok (.int .i64 (kvs.length : Int)) W := fun W hm => (ht.mod0 hm).wmap.run_len (P := Tryz.prog) 3 Tryz.underlying249
  have hnk : k.length = kn := by simpa using hk.1
  have hnv : v.length = vn := by simpa using hv.1
  have HT := Lib.hid ht
  have HC := Lib.hid hc
  have HCV := Lib.hid hcv
  have HLK := Lib.hid hlk
  have HLN := Lib.hid hln
  have HK := Lib.hid hk
  have HV := Lib.hid hv
  have HNK := Lib.hid hnk
  have HNV := Lib.hid hnv
  clear ht hc hcv hlk hln hk hv hnk hnv hlv hlb hw
  go_enter Tryz.func158, Tryz.ntmps158
  go_wp2_with fail
  generalize w.alloc (.cells #[.slice KA kn kc, .bool gone, .slice VA vn vc] 229) = w0 at *
  have HM0 := Lib.hid hm0
  have HBX := Lib.hid hbx
  have c0 : w0.cell? ⟨t, 0, none⟩ = some (.pointer (some ⟨e, 0, none⟩)) := HC.out w0 HM0.out 0
  have c2 : w0.cell? ⟨t, 2, none⟩ = some (.bool false) := HC.out w0 HM0.out 2
  refine (open_any t e false w0 c0 c2).mono ?_
  rintro r w1 ⟨rfl, rfl⟩
  have HS : Hid (∀ W, Mod Non w0 W → Mod Non w0 W ∧ W.cell? ⟨t, 3, none⟩ = some (.map (some wm)) ∧ W.cell? ⟨w.heap.size, 0, none⟩ = some (.slice KA kn kc) ∧ (convert 27 9 (.slice KA kn kc)).run Tryz.prog W = .ok (.string ⟨k.toArray⟩) W ∧ (Instr.lookup 249 (.map (some wm)) (.string ⟨k.toArray⟩) true).run Tryz.prog W = .ok (.tuple #[.agg #[.slice A1 n1 p1, .bool g1, .slice B1 n2 p2], .bool lb]) W) :=
    fun W hm => ⟨hm, HC.out W (HM0.out.trans0 hm) 3, (HBX.out.mod hm fun h => h).cell 0, HCV.out W (HM0.out.trans0 hm), HLK.out W (HM0.out.trans0 hm)⟩
  obtain ⟨h0, h3, hb0, hv, hl⟩ := HS.out w0 (Mod.refl _ _)
  clear hm0 hbx
  go_wp2_with fail
  go_region_held3 (fun w' => Mod Non w0 w' ∧ w'.cell? ⟨t, 3, none⟩ = some (.map (some wm)) ∧ w'.cell? ⟨w.heap.size, 0, none⟩ = some (.slice KA kn kc) ∧ (convert 27 9 (.slice KA kn kc)).run Tryz.prog w' = .ok (.string ⟨k.toArray⟩) w' ∧ (Instr.lookup 249 (.map (some wm)) (.string ⟨k.toArray⟩) true).run Tryz.prog w' = .ok (.tuple #[.agg #[.slice A1 n1 p1, .bool g1, .slice B1 n2 p2], .bool lb]) w')
    (first | (exact HS.out _ (Mod.drew (by first | assumption | exact Mod.refl _ _))) | (exact HS.out _ (Mod.alloc (Mod.drew (Mod.refl _ _)) _)) | (exact HS.out _ (Mod.setCell (Mod.alloc (Mod.drew (Mod.refl _ _)) _) (.inr (Nat.le_refl _)) _)) | go_keep)
    (first | fail)
  all_goals
    have hm1 : Mod Non w0 (w0.alloc (.cells #[.slice A1 n1 p1, .bool g1, .slice B1 n2 p2] 229)).drew := ((Mod.refl Non w0).alloc _).drew
    generalize (w0.alloc (.cells #[.slice A1 n1 p1, .bool g1, .slice B1 n2 p2] 229)).drew = w1 at *
    have hx1 := HBX.out.mod hm1 fun h => h
    have k0 : w1.cell? ⟨w.heap.size, 0, none⟩ = some (.slice KA kn kc) := hx1.cell 0
    have k1 : w1.cell? ⟨w.heap.size, 1, none⟩ = some (.bool gone) := hx1.cell 1
    have k2 : w1.cell? ⟨w.heap.size, 2, none⟩ = some (.slice VA vn vc) := hx1.cell 2
    have HM1 := Lib.hid (HM0.out.trans0 hm1)
    have HX1 := Lib.hid hx1
    clear hm1 c0 c2 h0 h3 hv hl hb0 hx1
    go_wp2_with fail
    refine (check_ok KA VA kn vn kc vc 0 gone w1 h1 h2 (by omega) (by omega) h5 h6).mono ?_
    rintro r w2 ⟨rfl, hm2⟩
    have HM2 := Lib.hid (HM1.out.trans0 hm2)
    have hx2 := HX1.out.mod hm2 fun h => h
    have HX2 := Lib.hid hx2
    have x3 : w2.cell? ⟨t, 3, none⟩ = some (.map (some wm)) := HC.out w2 HM2.out 3
    have xl := HLN.out w2 HM2.out
    have k0 : w2.cell? ⟨w.heap.size, 0, none⟩ = some (.slice KA kn kc) := hx2.cell 0
    have k2 : w2.cell? ⟨w.heap.size, 2, none⟩ = some (.slice VA vn vc) := hx2.cell 2
    have fr0 := hx2.frozen 0
    have fr2 := hx2.frozen 2
    clear hm2 hx2
  all_goals
    cases lb
    case' false =>
      have hl0 := hlen rfl
      have e1 : decide ((kvs.length : Int) = 256) = false := decide_eq_false (by omega)
      have e2 : ((kvs.length : Int) == 256) = false := by simp; omega
    all_goals
      clear hlen
      go_wp2_with fail
      have hmd : Mod Non w w2.drew := HM2.out.drew
      have hkd := HK.out.mod0 hmd
      have hkn : kn ≤ 140737488355328 := by omega
      have hvn : vn ≤ 140737488355328 := by omega
      go_region_law
        (first
          | (go_simp
             go_at_call 93
             first
             | ((with_reducible refine (clone_any KA kn kc k _ hkd hkn).mono ?_)
                rintro r w3 ⟨A3, c3, rfl, ho3, hbw3⟩
                have HM3 := Lib.hid (Mod.of_below (S := Non) hbw3)
                have HO3 := Lib.hid ho3
                have hvd := HV.out.mod0 (hmd.trans0 HM3.out)
                have k0' := HM3.out.cell k0 (fun h => h)
                have k2' := HM3.out.cell k2 (fun h => h)
                clear ho3 hbw3)
             | ((with_reducible refine (clone_any VA vn vc v _ hvd hvn).mono ?_)
                rintro r w4 ⟨A4, c4, rfl, ho4, hbw4⟩
                have HM4 := Lib.hid (Mod.of_below (S := Non) hbw4)
                have HO4 := Lib.hid ho4
                have hx4 := (HX2.out.drew.mod HM3.out fun h => h).mod HM4.out fun h => h
                have HX4 := Lib.hid hx4
                have k0'' : w4.cell? ⟨w.heap.size, 0, none⟩ = some (.slice KA kn kc) := hx4.cell 0
                have k2'' : w4.cell? ⟨w.heap.size, 2, none⟩ = some (.slice VA vn vc) := hx4.cell 2
                have fr0'' := hx4.frozen 0
                have fr2'' := hx4.frozen 2
                clear ho4 hbw4 hx4)))
      all_goals
        have hb5 := (HX4.out.set_ 0 (.slice A3 kn c3)).set_ 2 (.slice A4 vn c4)
        have hm5 : Mod Non w ((w4.setCell ⟨w.heap.size, 0, none⟩ (.slice A3 kn c3)).setCell ⟨w.heap.size, 2, none⟩ (.slice A4 vn c4)) := (((hmd.trans0 HM3.out).trans0 HM4.out).setCell (p := ⟨w.heap.size, 0, none⟩) (.inr (Nat.le_refl _)) _).setCell (p := ⟨w.heap.size, 2, none⟩) (.inr (Nat.le_refl _)) _
        have hm45 : Mod (fun i => i = w.heap.size) w4 ((w4.setCell ⟨w.heap.size, 0, none⟩ (.slice A3 kn c3)).setCell ⟨w.heap.size, 2, none⟩ (.slice A4 vn c4)) := ((Mod.refl _ w4).set1 0 _).set1 2 _
        have hs2 := HX2.out.lt
        have hs3 := HM3.out.size
        have hs4 := HM4.out.size
        rw [World.size_drew] at hs3
        have q3 := own_base HO3.out
        have q4 := own_base HO4.out
        have l3 : ∀ b, blkOf A3 = some b → b < w3.heap.size := fun b hb => (HO3.out.lt b (by cases A3 <;> simp_all [blkOf, Value.ownBlock])).2
        have l4 : ∀ b, blkOf A4 = some b → b < w4.heap.size := fun b hb => (HO4.out.lt b (by cases A4 <;> simp_all [blkOf, Value.ownBlock])).2
        have r3 : Rd ((w4.setCell ⟨w.heap.size, 0, none⟩ (.slice A3 kn c3)).setCell ⟨w.heap.size, 2, none⟩ (.slice A4 vn c4)) A3 kn (by8 k) := ((Rd.of_own HO3.out).mod0 HM4.out).mod hm45 fun _ b hb e => by
          have := q3 b hb
          rw [World.size_drew] at this
          omega
        have r4 : Rd ((w4.setCell ⟨w.heap.size, 0, none⟩ (.slice A3 kn c3)).setCell ⟨w.heap.size, 2, none⟩ (.slice A4 vn c4)) A4 vn (by8 v) := (Rd.of_own HO4.out).mod hm45 fun _ b hb e => by
          have := q4 b hb
          omega
        have hs5 := hm45.size
        generalize (w4.setCell ⟨w.heap.size, 0, none⟩ (.slice A3 kn c3)).setCell ⟨w.heap.size, 2, none⟩ (.slice A4 vn c4) = w5 at *
        have g3 : ∀ b, blkOf A3 = some b → w.heap.size ≤ b ∧ b < w5.heap.size := fun b hb => by
          have := q3 b hb
          have := l3 b hb
          rw [World.size_drew] at *
          omega
        have g4 : ∀ b, blkOf A4 = some b → w.heap.size ≤ b ∧ b < w5.heap.size := fun b hb => by
          have := q4 b hb
          have := l4 b hb
          omega
        obtain ⟨_, _, he3, o3, o3'⟩ := own_slice HO3.out
        cases he3
        obtain ⟨_, _, he4, o4, o4'⟩ := own_slice HO4.out
        cases he4
        have hmx : maxLen = 9223372036854775807 := rfl
        have z0 : w5.cell? ⟨w.heap.size, 0, none⟩ = some (.slice A3 kn c3) := hb5.cell 0
        have z1 : w5.cell? ⟨w.heap.size, 1, none⟩ = some (.bool gone) := hb5.cell 1
        have z2 : w5.cell? ⟨w.heap.size, 2, none⟩ = some (.slice A4 vn c4) := hb5.cell 2
        have z3 : w5.cell? ⟨t, 3, none⟩ = some (.map (some wm)) := HC.out w5 hm5 3
        have zc : (convert 27 9 (.slice A3 kn c3)).run Tryz.prog w5 = .ok (.string ⟨k.toArray⟩) w5 := conv_str w5 27 9 5 A3 kn c3 k Tryz.underlying27 Tryz.underlying5 Tryz.underlying9 r3
        have HZ : Hid (∀ W, Mod Non w5 W → W.cell? ⟨t, 3, none⟩ = some (.map (some wm)) ∧ W.cell? ⟨w.heap.size, 0, none⟩ = some (.slice A3 kn c3) ∧ W.cell? ⟨w.heap.size, 1, none⟩ = some (.bool gone) ∧ W.cell? ⟨w.heap.size, 2, none⟩ = some (.slice A4 vn c4) ∧ (convert 27 9 (.slice A3 kn c3)).run Tryz.prog W = .ok (.string ⟨k.toArray⟩) W) :=
          fun W hm => ⟨hm.cell z3 fun h => h, hm.cell z0 fun h => h, hm.cell z1 fun h => h, hm.cell z2 fun h => h, conv_str W 27 9 5 A3 kn c3 k Tryz.underlying27 Tryz.underlying5 Tryz.underlying9 (r3.mod0 hm)⟩
        obtain ⟨w6, hrun, hp6, hm6⟩ := MapAt.run_put (P := Tryz.prog) strKey ((HT.out.wmap.mod0' hm5).mod0' ((Mod.refl Non w5).drew)) Tryz.underlying249 Tryz.underlying9 ⟨k.toArray⟩ (.agg #[.slice A3 kn c3, .bool gone, .slice A4 vn c4])
        have hfin : Hid (∃ F', TxIs w6 F' t e ⟨seq, false, putC writes ⟨k, gone, v⟩, guards⟩ ∧ Mod F w w6 ∧ ∀ i, F' i → F i ∨ w.heap.size ≤ i) := TxIs.put HT.out f1 f2 f3 f4 f5 f6 hpl (hm5.drew) HNK.out HNV.out (r3.drew) (r4.drew) g3 g4 ⟨o3, by omega⟩ ⟨o4, by omega⟩ hp6 hm6
        have HRUN := Lib.hid hrun
        have htw := HT.out.tw
        have hwb : wm < w.heap.size := f6 _ f2
        have HZ6 : Hid (w6.cell? ⟨t, 3, none⟩ = some (.map (some wm)) ∧ w6.cell? ⟨w.heap.size, 0, none⟩ = some (.slice A3 kn c3) ∧ w6.cell? ⟨w.heap.size, 1, none⟩ = some (.bool gone) ∧ w6.cell? ⟨w.heap.size, 2, none⟩ = some (.slice A4 vn c4) ∧ (convert 27 9 (.slice A3 kn c3)).run Tryz.prog w6 = .ok (.string ⟨k.toArray⟩) w6) :=
          ⟨hm6.cell (p := ⟨t, 3, none⟩) z3 (fun e => htw e), hm6.cell (p := ⟨w.heap.size, 0, none⟩) z0 (fun e => by simp only at e; omega), hm6.cell (p := ⟨w.heap.size, 1, none⟩) z1 (fun e => by simp only at e; omega), hm6.cell (p := ⟨w.heap.size, 2, none⟩) z2 (fun e => by simp only at e; omega), conv_str w6 27 9 5 A3 kn c3 k Tryz.underlying27 Tryz.underlying5 Tryz.underlying9 ((r3.drew).mod hm6 fun _ b hb e => by have := (g3 b hb).1; omega)⟩
        clear hrun hp6 hm6 r3 r4 g3 g4 q3 q4 l3 l4 o3 o3' o4 o4' hmx hm45 hb5
        go_wp2_with fail
        go_region_held3 (fun w' => w'.cell? ⟨t, 3, none⟩ = some (.map (some wm)) ∧ w'.cell? ⟨w.heap.size, 0, none⟩ = some (.slice A3 kn c3) ∧ w'.cell? ⟨w.heap.size, 1, none⟩ = some (.bool gone) ∧ w'.cell? ⟨w.heap.size, 2, none⟩ = some (.slice A4 vn c4) ∧ (convert 27 9 (.slice A3 kn c3)).run Tryz.prog w' = .ok (.string ⟨k.toArray⟩) w')
          (first | (exact HZ.out _ (Mod.drew (Mod.refl _ _))) | exact HZ6.out)
          (first | (rw [HRUN.out]; simp only [Result.andThen, Oper.upon]))
        go_wp2_with fail
        go_ret
        exact ⟨rfl, hfin.out⟩

end Go.Proofs.YtgnpmmhpeianpaaGreatDoor
