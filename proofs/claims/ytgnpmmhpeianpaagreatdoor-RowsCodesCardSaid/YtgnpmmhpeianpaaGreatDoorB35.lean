/- txn.Put where it answers OK; rows: get and put of numbers; Fresh. -/
import Derived.Test.YtgnpmmhpeianpaaGreatDoorB22
import Derived.Test.YtgnpmmhpeianpaaGreatDoorB29
import Derived.Test.YtgnpmmhpeianpaaGreatDoorB06
namespace Go.Proofs.YtgnpmmhpeianpaaGreatDoor
open Go.RowKit

set_option maxRecDepth 100000 in
set_option maxHeartbeats 400000 in
theorem tput_ok (F : Nat → Prop) (t e : Nat) (T : Tx) (KA VA : Option Addr) (kn kc vn vc : Nat) (k v : List UInt8) (w : World) (h : TxIs w F t e T) (hd : T.done = false) (hk : Rd w KA kn (by8 k)) (hv : Rd w VA vn (by8 v))
    (h1 : 1 ≤ kn) (h2 : kn ≤ 64) (h5 : vn ≤ 1024) (hw : (findC T.writes k).isSome = true ∨ T.writes.length < 256) (hpl : powG < w.heap.size) :
    Calls Tryz.prog 89 #[.pointer (some ⟨t, 0, none⟩), .slice KA kn kc, .slice VA vn vc] w fun r w' => r = .returned (.int .i64 0) ∧ ∃ F', TxIs w' F' t e { T with writes := putC T.writes ⟨k, false, v⟩ } ∧ Mod F w w' ∧ ∀ i, F' i → F i ∨ w.heap.size ≤ i := by
  have HW := Lib.hid (twrite_ok F t e T KA VA kn kc vn vc k v false w h hd hk hv h1 h2 h5 (fun h => by cases h) hw hpl)
  clear h hk hv hw
  go_enter Tryz.func89, Tryz.ntmps89
  go_wp2_with fail
  refine HW.out.mono ?_
  rintro r w1 ⟨rfl, hp⟩
  have HP := Lib.hid hp
  clear hp
  go_wp2_with fail
  go_ret
  exact ⟨rfl, HP.out⟩

theorem findC_mem {cs : List Ch} {k : List UInt8} {c : Ch} (h : findC cs k = some c) : c ∈ cs := by
  induction cs with
  | nil => cases h
  | cons a r ih =>
    rw [findC] at h
    split at h
    · cases h; exact .head _
    · exact .tail _ (ih h)

/-- the engine has nothing. -/
def NoGet (w : World) (e : Nat) : Prop := ∀ W, Mod Non w W → ∀ KA kn kc k s, Rd W KA kn (by8 k) → Calls Tryz.prog 157 #[.pointer (some ⟨e, 0, none⟩), .slice KA kn kc, .int .i64 s] W fun r w' => r = .returned (.tuple #[.slice none 0 0, .int .i64 6]) ∧ Mod Non W w'
theorem NoGet.mod0 {w w' : World} {e : Nat} (h : NoGet w e) (hm : Mod Non w w') : NoGet w' e := fun W h1 => h W (hm.trans0 h1)

/-- what get answers of a row of n numbers. -/
def KgPost (n : Nat) (k : List UInt8) (cs : List Ch) (w : World) (e : Ending) (w' : World) : Prop := match findC cs k with
  | none => e = .returned (.tuple #[.slice none 0 0, .int .i64 0]) ∧ Mod Non w w'
  | some c => if c.gone = true then e = .returned (.tuple #[.slice none 0 0, .int .i64 0]) ∧ Mod Non w w' else DnPost n c.val w e w'
theorem DnPost.mono0 {n : Nat} {l : List UInt8} {w0 w w' : World} {e : Ending} (h : DnPost n l w e w') (hm : Mod Non w0 w) : DnPost n l w0 e w' := by
  unfold DnPost at h ⊢
  cases hd : decN n l with
  | none => rw [hd] at h; exact ⟨h.1, hm.trans0 h.2⟩
  | some ms =>
    rw [hd] at h
    obtain ⟨A, c, h1, h2, h3, h4⟩ := h
    exact ⟨A, c, h1, h2, h3, hm.trans0 h4⟩

set_option maxRecDepth 100000 in
set_option maxHeartbeats 2000000 in
theorem kget_any (F : Nat → Prop) (t e : Nat) (T : Tx) (table id : Int) (n bx : Nat) (w : World) (h : TxIs w F t e T) (hd : T.done = false) (hvl : ∀ c ∈ T.writes, c.val.length ≤ 100000) (hg : NoGet w e)
    (hb : w.cell? ⟨bx, 0, none⟩ = some (.int .i64 (n : Int))) (hn : n ≤ 100) (h0 : 0 ≤ id) (h1 : id ≤ 1099511627776) (h2 : 0 ≤ table) (h3 : table ≤ 255) :
    Calls Tryz.prog 47 #[kindV table bx, .pointer (some ⟨t, 0, none⟩), .int .i64 id] w (KgPost n (keyB id table []) T.writes w) := by
  have HH := Lib.hid h
  have HVL := Lib.hid hvl
  have HG := Lib.hid hg
  have HD := Lib.hid hd
  have HB := Lib.hid hb
  unfold kindV
  have hx0 := Blk.new w 94 #[.int .i64 table, .func (.func 85) #[] #[], .func (.func 86) #[] #[.pointer (some ⟨bx, 0, none⟩)], .int .i64 0]
  have hm0 : Mod Non w (w.alloc (.cells #[.int .i64 table, .func (.func 85) #[] #[], .func (.func 86) #[] #[.pointer (some ⟨bx, 0, none⟩)], .int .i64 0] 94)) := (Mod.refl Non w).alloc _
  clear h hvl hg hd hb
  go_enter Tryz.func47, Tryz.ntmps47
  go_wp2_with fail
  generalize w.alloc (.cells #[.int .i64 table, .func (.func 85) #[] #[], .func (.func 86) #[] #[.pointer (some ⟨bx, 0, none⟩)], .int .i64 0] 94) = w0 at *
  have HX0 := Lib.hid hx0
  have HM0 := Lib.hid hm0
  refine (make_any id table none 0 0 [] w0 (Rd.nil _ _) h0 h1 h2 h3 (by omega)).mono ?_
  rintro r w1 ⟨A1, c1, rfl, ho1, hb1⟩
  have hm1 : Mod Non w0 w1 := Mod.of_below hb1
  have HK1 := Lib.hid (Rd.of_own ho1)
  have HM1 := Lib.hid (HM0.out.trans0 hm1)
  have HX1 := Lib.hid (HX0.out.mod hm1 fun h => h)
  clear hx0 hm0 ho1 hb1 hm1
  go_wp2_with fail
  refine (tget_any F t e T A1 9 c1 (keyB id table []) w1 (HH.out.mod0 HM1.out) HD.out HK1.out HVL.out fun W hm => HG.out W (HM1.out.trans0 hm) _ _ _ _ _ (HK1.out.mod0 hm)).mono ?_
  intro r w2 hp
  unfold TgPost at hp
  cases hf : findC T.writes (keyB id table []) with
  | none =>
    rw [hf] at hp
    obtain ⟨rfl, hm2⟩ := hp
    have hpost : ∀ r w', r = .returned (.tuple #[.slice none 0 0, .int .i64 0]) → Mod Non w w' → KgPost n (keyB id table []) T.writes w r w' := fun r w' e1 e2 => by
      unfold KgPost; rw [hf]; exact ⟨e1, e2⟩
    have HP := Lib.hid hpost
    have HM2 := Lib.hid (HM1.out.trans0 hm2)
    have hx2 := HX1.out.mod hm2 fun h => h
    have k3 : ∀ j, (w2.drewN j).cell? ⟨w.heap.size, 3, none⟩ = some (.int .i64 0) := fun j => (hx2.drewN j).cell 3
    clear hm2 hpost hf hx2
    go_wp2_with fail
    go_quiet (fail)
    go_wp2_with fail
    go_ret2
    exact HP.out _ _ rfl (HM2.out.drewN nq)
  | some c =>
    rw [hf] at hp
    obtain ⟨ck, cg, cv⟩ := c
    have hcl := HVL.out _ (findC_mem hf)
    simp only at hp hcl
    cases cg with
    | true =>
      rw [if_pos rfl] at hp
      obtain ⟨rfl, hm2⟩ := hp
      have hpost : ∀ r w', r = .returned (.tuple #[.slice none 0 0, .int .i64 0]) → Mod Non w w' → KgPost n (keyB id table []) T.writes w r w' := fun r w' e1 e2 => by
        unfold KgPost; rw [hf]; exact ⟨e1, e2⟩
      have HP := Lib.hid hpost
      have HM2 := Lib.hid (HM1.out.trans0 hm2)
      have hx2 := HX1.out.mod hm2 fun h => h
      have k3 : ∀ j, (w2.drewN j).cell? ⟨w.heap.size, 3, none⟩ = some (.int .i64 0) := fun j => (hx2.drewN j).cell 3
      clear hm2 hpost hf hx2
      go_wp2_with fail
      go_quiet (fail)
      go_wp2_with fail
      go_ret2
      exact HP.out _ _ rfl (HM2.out.drewN nq)
    | false =>
      rw [if_neg (by simp)] at hp
      obtain ⟨A2, c2, rfl, hr2, hc2, hm2⟩ := hp
      obtain ⟨vn, hvn⟩ : ∃ vn, cv.length = vn := ⟨_, rfl⟩
      rw [hvn] at hr2 hc2 hcl
      rw [hvn]
      have hpost : ∀ r w', DnPost n cv w r w' → KgPost n (keyB id table []) T.writes w r w' := fun r w' e1 => by
        unfold KgPost; rw [hf]; exact e1
      have HP := Lib.hid hpost
      have HM2 := Lib.hid (HM1.out.trans0 hm2)
      have hx2 := HX1.out.mod hm2 fun h => h
      have k2 : w2.cell? ⟨w.heap.size, 2, none⟩ = some (.func (.func 86) #[] #[.pointer (some ⟨bx, 0, none⟩)]) := hx2.cell 2
      have hbb := HM2.out.cell HB.out fun h => h
      have HDN := Lib.hid (dec_any A2 vn c2 cv n bx w2 hbb hr2 hc2.1 (by omega) hc2.2 hn)
      clear hm2 hpost hf hx2 hr2 hbb
      go_wp2_with fail
      refine HDN.out.mono ?_
      intro r w3 hp3
      have HP3 := Lib.hid hp3
      unfold DnPost at hp3
      cases hdn : decN n cv with
      | none =>
        rw [hdn] at hp3
        obtain ⟨rfl, hm3⟩ := hp3
        clear hm3 hdn
        go_wp2_with fail
        go_ret2
        exact HP.out _ _ (HP3.out.mono0 HM2.out)
      | some ms =>
        rw [hdn] at hp3
        obtain ⟨A3, c3, rfl, hr3, hc3, hm3⟩ := hp3
        clear hm3 hdn hr3 hc3
        go_wp2_with fail
        go_ret2
        exact HP.out _ _ (HP3.out.mono0 HM2.out)

set_option maxRecDepth 100000 in
set_option maxHeartbeats 2000000 in
theorem kput_ok (F : Nat → Prop) (t e : Nat) (T : Tx) (table id : Int) (bx : Nat) (B : Option Addr) (m d : Nat) (xs : List Int) (w : World) (h : TxIs w F t e T) (hd : T.done = false)
    (g : Rd w B m (xs.map (Value.int .i64))) (hm : m ≤ 50) (hin : inAll xs = true) (h0 : 0 ≤ id) (h1 : id ≤ 1099511627776) (h2 : 0 ≤ table) (h3 : table ≤ 255) (hw : (findC T.writes (keyB id table [])).isSome = true ∨ T.writes.length < 256) (hpl : powG < w.heap.size) :
    Calls Tryz.prog 49 #[kindV table bx, .pointer (some ⟨t, 0, none⟩), .int .i64 id, .slice B m d] w fun r w' => r = .returned (.int .i64 0) ∧ ∃ F', TxIs w' F' t e { T with writes := putC T.writes ⟨keyB id table [], false, nBs xs⟩ } ∧ Mod F w w' ∧ ∀ i, F' i → F i ∨ w.heap.size ≤ i := by
  have hml : xs.length = m := by simpa using g.1
  have hbl := nBs_len xs
  have HH := Lib.hid h
  have HD := Lib.hid hd
  have HG := Lib.hid g
  have HW := Lib.hid hw
  have HIN := Lib.hid hin
  unfold kindV
  have hx0 := Blk.new w 94 #[.int .i64 table, .func (.func 85) #[] #[], .func (.func 86) #[] #[.pointer (some ⟨bx, 0, none⟩)], .int .i64 0]
  have hm0 : Mod Non w (w.alloc (.cells #[.int .i64 table, .func (.func 85) #[] #[], .func (.func 86) #[] #[.pointer (some ⟨bx, 0, none⟩)], .int .i64 0] 94)) := (Mod.refl Non w).alloc _
  clear h hd g hw hin
  go_enter Tryz.func49, Tryz.ntmps49
  go_wp2_with fail
  generalize w.alloc (.cells #[.int .i64 table, .func (.func 85) #[] #[], .func (.func 86) #[] #[.pointer (some ⟨bx, 0, none⟩)], .int .i64 0] 94) = w0 at *
  have HX0 := Lib.hid hx0
  have HM0 := Lib.hid hm0
  refine (enc_any B m d xs w0 (HG.out.mod0 hm0) (by omega)).mono ?_
  intro r w1 hp
  unfold NePost at hp
  rw [HIN.out, if_pos rfl] at hp
  obtain ⟨A1, n1, c1, rfl, hn1, hr1, hc1, hc2, hm1⟩ := hp
  rw [← hn1] at hbl
  have HN1 := Lib.hid hn1
  have HR1 := Lib.hid hr1
  have HM1 := Lib.hid (HM0.out.trans0 hm1)
  have hx1 := HX0.out.mod hm1 fun h => h
  have k0 : w1.cell? ⟨w.heap.size, 0, none⟩ = some (.int .i64 table) := hx1.cell 0
  clear hx0 hm0 hn1 hr1 hm1 hx1
  go_wp2_with fail
  refine (make_any id table none 0 0 [] w1 (Rd.nil _ _) h0 h1 h2 h3 (by omega)).mono ?_
  rintro r w2 ⟨A2, c2, rfl, ho2, hb2⟩
  have hm2 : Mod Non w1 w2 := Mod.of_below hb2
  have HK2 := Lib.hid (Rd.of_own ho2)
  have HM2 := Lib.hid (HM1.out.trans0 hm2)
  have HV2 := Lib.hid (HR1.out.mod0 hm2)
  clear ho2 hb2 hm2 k0
  have hs2 := HM2.out.size
  go_wp2_with fail
  refine (tput_ok F t e T A2 A1 9 c2 n1 c1 (keyB id table []) (nBs xs) w2 (HH.out.mod0 HM2.out) HD.out HK2.out HV2.out (by omega) (by omega) (by omega) HW.out (by omega)).mono ?_
  rintro r w3 ⟨rfl, F', h4, h5, h6⟩
  have H4 := Lib.hid h4
  have H5 := Lib.hid h5
  have H6 := Lib.hid h6
  clear h4 h5 h6
  go_wp2_with fail
  go_ret
  exact ⟨rfl, F', H4.out, (HM2.out.non (S := F)).trans H5.out fun i hi => .inl hi, fun i hi => (H6.out i hi).imp (fun h => h) fun h => by omega⟩

end Go.Proofs.YtgnpmmhpeianpaaGreatDoor

/- rows: Row; GetTree, GetHead of what is not there. -/
namespace Go.Proofs.YtgnpmmhpeianpaaGreatDoor
open Go.RowKit

set_option maxRecDepth 100000 in
set_option maxHeartbeats 1000000 in
theorem num17_any (tree table n : Int) (w : World) (h0 : 0 ≤ tree) (h1 : tree ≤ 1099511627776) (h2 : 0 ≤ table) (h3 : table ≤ 255) (h4 : 0 ≤ n) (h5 : n ≤ 1099511627776) :
    Calls Tryz.prog 52 #[.int .i64 tree, .int .i64 table, .int .i64 n] w fun e w' => ∃ A' c', e = .returned (.tuple #[.slice A' 17 c', .int .i64 0]) ∧ w'.ownsRow w.heap.size 5 1 (.slice A' 17 c') 17 (by8 (keyB tree table (fixB n))) ∧ Below w.heap.size w w' := by
  have d0 : decide (n < 0) = false := decide_eq_false (by omega)
  have d1 : decide (1099511627776 < n) = false := decide_eq_false (by omega)
  go_enter Tryz.func52, Tryz.ntmps52
  go_wp2_with fail
  refine (putFix_any none 0 0 [] n w (Rd.nil _ _) (by omega) h4 h5).mono ?_
  rintro r w1 ⟨A1, c1, rfl, ho1, hb1⟩
  rw [Nat.zero_add, List.nil_append] at ho1
  rw [Nat.zero_add]
  have HO1 := Lib.hid ho1
  have HB1 := Lib.hid hb1
  clear ho1 hb1
  go_wp2_with fail
  refine (make_any tree table A1 8 c1 (fixB n) w1 (Rd.of_own HO1.out) h0 h1 h2 h3 (by omega)).mono ?_
  rintro r w2 ⟨A2, c2, rfl, ho2, hb2⟩
  have HO2 := Lib.hid ho2
  have HB2 := Lib.hid hb2
  clear ho2 hb2
  go_wp2_with fail
  go_ret2
  exact ⟨A2, c2, rfl, own_mono HO2.out HB1.out.size, HB1.out.trans (HB2.out.mono HB1.out.size)⟩

set_option maxRecDepth 100000 in
set_option maxHeartbeats 1000000 in
theorem row_ok (id table n : Int) (w : World) (h0 : 1 ≤ id) (h1 : id ≤ 64) (h2 : 2 ≤ table) (h3 : table ≤ 7) (h4 : 0 ≤ n) (h5 : n ≤ 1099511627776) :
    Calls Tryz.prog 24 #[.int .i64 id, .int .i64 table, .int .i64 n] w fun e w' => ∃ A' c', e = .returned (.tuple #[.slice A' 17 c', .int .i64 0]) ∧ Rd w' A' 17 (by8 (keyB id table (fixB n))) ∧ Mod Non w w' := by
  have HT : Hid (Calls Tryz.prog 48 #[.int .i64 id] w fun e w' => e = .returned (.bool true) ∧ w = w') := (isTree_any id w).mono fun _ _ h => ⟨by rw [h.1, decide_eq_true ⟨h0, h1⟩], h.2⟩
  have d0 : decide (table < 2) = false := decide_eq_false (by omega)
  have d1 : decide (7 < table) = false := decide_eq_false (by omega)
  go_enter Tryz.func24, Tryz.ntmps24
  go_wp2_with (go_at_call 48; refine HT.out.mono ?_; rintro r w9 ⟨rfl, rfl⟩)
  refine (num17_any id table n w (by omega) (by omega) (by omega) (by omega) h4 h5).mono ?_
  rintro r w1 ⟨A1, c1, rfl, ho1, hb1⟩
  have HO1 := Lib.hid ho1
  have HB1 := Lib.hid hb1
  clear ho1 hb1
  go_wp2_with fail
  go_ret2
  exact ⟨A1, c1, rfl, Rd.of_own HO1.out, Mod.of_below HB1.out⟩

theorem keyB_inj {a b c d : Int} (h : keyB a b [] = keyB c d []) (h0 : 0 ≤ a) (h1 : a < 256) (h2 : 0 ≤ c) (h3 : c < 256) (h4 : 0 ≤ b) (h5 : b < 256) (h6 : 0 ≤ d) (h7 : d < 256) : a = c ∧ b = d := by
  unfold keyB fixB at h
  simp only [List.cons_append, List.nil_append, List.cons.injEq, and_true] at h
  obtain ⟨-, -, -, -, -, -, -, ha, hb⟩ := h
  have f : ∀ x y : Int, 0 ≤ x → x < 256 → 0 ≤ y → y < 256 → lowB x = lowB y → x = y := fun x y x0 x1 y0 y1 he => by
    have := congrArg b8 he
    rw [b8_lowB, b8_lowB] at this
    injection this with _ h
    omega
  exact ⟨f a c h0 h1 h2 h3 ha, f b d h4 h5 h6 h7 hb⟩

def kindT : Value := .agg #[.int .i64 0, .func (.func 5) #[] #[], .func (.func 14) #[] #[], .int .i64 10]
def zeroT : Value := .agg #[.int .i64 0, .int .i64 0, .int .i64 0, .string ⟨#[]⟩, .string ⟨#[]⟩]

set_option maxRecDepth 100000 in
set_option maxHeartbeats 400000 in
theorem trees_any (w : World) : Calls Tryz.prog 50 #[] w fun e w' => e = .returned kindT ∧ Mod Non w w' := by
  unfold kindT
  have HK := Lib.hid (Blk.new w 100 #[.int .i64 0, .func (.func 5) #[] #[], .func (.func 14) #[] #[], .int .i64 10])
  go_enter Tryz.func50, Tryz.ntmps50
  go_wp2_with fail
  refine bodyPost_ret (results_cell_row rfl _ _ w.heap.size 100 _ (0, 0) _ rfl HK.out Tryz.underlying100 rfl (by kernel_rfl)) rfl ?_
  exact ⟨rfl, (Mod.refl Non w).alloc _⟩

set_option maxRecDepth 100000 in
set_option maxHeartbeats 4000000 in
theorem getT_none (F : Nat → Prop) (t e : Nat) (T : Tx) (id : Int) (w : World) (h : TxIs w F t e T) (hd : T.done = false) (hvl : ∀ c ∈ T.writes, c.val.length ≤ 100000) (hg : NoGet w e) (h0 : 0 ≤ id) (h1 : id ≤ 1099511627776) (hf : findC T.writes (keyB id 0 []) = none) :
    Calls Tryz.prog 51 #[kindT, .pointer (some ⟨t, 0, none⟩), .int .i64 id] w fun r w' => r = .returned (.tuple #[zeroT, .int .i64 10]) ∧ Mod Non w w' := by
  have HH := Lib.hid h
  have HVL := Lib.hid hvl
  have HG := Lib.hid hg
  have HD := Lib.hid hd
  have HF := Lib.hid hf
  unfold kindT zeroT
  have ha : ∃ w0, w0 = ((w.alloc (.cells #[.int .i64 0, .func (.func 5) #[] #[], .func (.func 14) #[] #[], .int .i64 10] 100)).alloc (.cells #[.int .i64 0, .int .i64 0, .int .i64 0, .string ⟨#[]⟩, .string ⟨#[]⟩] 32)).alloc (.cells #[.int .i64 0, .int .i64 0, .int .i64 0, .string ⟨#[]⟩, .string ⟨#[]⟩] 32) := ⟨_, rfl⟩
  obtain ⟨w0, hw0⟩ := ha
  have hx0 : Blk w0 w.heap.size 100 #[.int .i64 0, .func (.func 5) #[] #[], .func (.func 14) #[] #[], .int .i64 10] := by rw [hw0]; exact ((Blk.new w _ _).alloc _).alloc _
  have hr0 : Blk w0 (w.heap.size + 1) 32 #[.int .i64 0, .int .i64 0, .int .i64 0, .string ⟨#[]⟩, .string ⟨#[]⟩] := by
    have := (Blk.new (w.alloc (.cells #[.int .i64 0, .func (.func 5) #[] #[], .func (.func 14) #[] #[], .int .i64 10] 100)) 32 #[.int .i64 0, .int .i64 0, .int .i64 0, .string ⟨#[]⟩, .string ⟨#[]⟩]).alloc (.cells #[.int .i64 0, .int .i64 0, .int .i64 0, .string ⟨#[]⟩, .string ⟨#[]⟩] 32)
    rw [World.size_alloc] at this
    rw [hw0]; exact this
  have hz0 : Blk w0 (w.heap.size + 2) 32 #[.int .i64 0, .int .i64 0, .int .i64 0, .string ⟨#[]⟩, .string ⟨#[]⟩] := by
    have := Blk.new ((w.alloc (.cells #[.int .i64 0, .func (.func 5) #[] #[], .func (.func 14) #[] #[], .int .i64 10] 100)).alloc (.cells #[.int .i64 0, .int .i64 0, .int .i64 0, .string ⟨#[]⟩, .string ⟨#[]⟩] 32)) 32 #[.int .i64 0, .int .i64 0, .int .i64 0, .string ⟨#[]⟩, .string ⟨#[]⟩]
    rw [World.size_alloc, World.size_alloc] at this
    rw [hw0]; exact this
  have hm0 : Mod Non w w0 := by rw [hw0]; exact (((Mod.refl Non w).alloc _).alloc _).alloc _
  have HW0 := Lib.hid hw0
  clear h hvl hg hd hf hw0
  go_enter Tryz.func51, Tryz.ntmps51
  go_wp2_with fail
  rw [← HW0.out]
  have HX0 := Lib.hid hx0
  have HR0 := Lib.hid hr0
  have HZ0 := Lib.hid hz0
  have HM0 := Lib.hid hm0
  refine (make_any id 0 none 0 0 [] w0 (Rd.nil _ _) h0 h1 (by omega) (by omega) (by omega)).mono ?_
  rintro r w1 ⟨A1, c1, rfl, ho1, hb1⟩
  have hm1 : Mod Non w0 w1 := Mod.of_below hb1
  have HK1 := Lib.hid (Rd.of_own ho1)
  have HM1 := Lib.hid (HM0.out.trans0 hm1)
  have HM01 := Lib.hid hm1
  clear hx0 hm0 hr0 hz0 ho1 hb1 hm1
  go_wp2_with fail
  refine (tget_any F t e T A1 9 c1 (keyB id 0 []) w1 (HH.out.mod0 HM1.out) HD.out HK1.out HVL.out fun W hm => HG.out W (HM1.out.trans0 hm) _ _ _ _ _ (HK1.out.mod0 hm)).mono ?_
  intro r w2 hp
  unfold TgPost at hp
  rw [HF.out] at hp
  obtain ⟨rfl, hm2⟩ := hp
  have HM2 := Lib.hid (HM1.out.trans0 hm2)
  have hx2 := (HX0.out.mod HM01.out fun h => h).mod hm2 fun h => h
  have hr2 := (HR0.out.mod HM01.out fun h => h).mod hm2 fun h => h
  have hz2 := (HZ0.out.mod HM01.out fun h => h).mod hm2 fun h => h
  have HR2 := Lib.hid hr2
  have k3 : w2.cell? ⟨w.heap.size, 3, none⟩ = some (.int .i64 10) := hx2.cell 3
  have r0 : w2.cell? ⟨w.heap.size + 1, 0, none⟩ = some (.int .i64 0) := hr2.cell 0
  have r1 : w2.cell? ⟨w.heap.size + 1, 1, none⟩ = some (.int .i64 0) := hr2.cell 1
  have r2 : w2.cell? ⟨w.heap.size + 1, 2, none⟩ = some (.int .i64 0) := hr2.cell 2
  have r3 : w2.cell? ⟨w.heap.size + 1, 3, none⟩ = some (.string ⟨#[]⟩) := hr2.cell 3
  have r4 : w2.cell? ⟨w.heap.size + 1, 4, none⟩ = some (.string ⟨#[]⟩) := hr2.cell 4
  have z0 : w2.cell? ⟨w.heap.size + 2, 0, none⟩ = some (.int .i64 0) := hz2.cell 0
  have z1 : w2.cell? ⟨w.heap.size + 2, 1, none⟩ = some (.int .i64 0) := hz2.cell 1
  have z2 : w2.cell? ⟨w.heap.size + 2, 2, none⟩ = some (.int .i64 0) := hz2.cell 2
  have z3 : w2.cell? ⟨w.heap.size + 2, 3, none⟩ = some (.string ⟨#[]⟩) := hz2.cell 3
  have z4 : w2.cell? ⟨w.heap.size + 2, 4, none⟩ = some (.string ⟨#[]⟩) := hz2.cell 4
  have fr0 := hr2.frozen 0
  have fr1 := hr2.frozen 1
  have fr2 := hr2.frozen 2
  have fr3 := hr2.frozen 3
  have fr4 := hr2.frozen 4
  clear hm2 hx2 hr2 hz2
  go_wp2_with fail
  go_region_held3 (fun w' => w'.cell? ⟨w.heap.size, 3, none⟩ = some (.int .i64 10) ∧ w'.cell? ⟨w.heap.size + 2, 0, none⟩ = some (.int .i64 0) ∧ w'.cell? ⟨w.heap.size + 2, 1, none⟩ = some (.int .i64 0) ∧ w'.cell? ⟨w.heap.size + 2, 2, none⟩ = some (.int .i64 0) ∧ w'.cell? ⟨w.heap.size + 2, 3, none⟩ = some (.string ⟨#[]⟩) ∧ w'.cell? ⟨w.heap.size + 2, 4, none⟩ = some (.string ⟨#[]⟩)) (first | go_keep) (first | fail)
  all_goals
    have hb3 := (((((HR2.out.set_ 0 (.int .i64 0)).set_ 1 (.int .i64 0)).set_ 2 (.int .i64 0)).set_ 3 (.string ⟨#[]⟩)).set_ 4 (.string ⟨#[]⟩))
    have hm3 := (((((HM2.out.setCell (p := ⟨w.heap.size + 1, 0, none⟩) (.inr (by simp only; omega)) (.int .i64 0)).setCell (p := ⟨w.heap.size + 1, 1, none⟩) (.inr (by simp only; omega)) (.int .i64 0)).setCell (p := ⟨w.heap.size + 1, 2, none⟩) (.inr (by simp only; omega)) (.int .i64 0)).setCell (p := ⟨w.heap.size + 1, 3, none⟩) (.inr (by simp only; omega)) (.string ⟨#[]⟩)).setCell (p := ⟨w.heap.size + 1, 4, none⟩) (.inr (by simp only; omega)) (.string ⟨#[]⟩))
    have HB3 := Lib.hid hb3
    have HM3 := Lib.hid hm3
    clear hb3 hm3
    go_wp2_with fail
    refine bodyPost_ret (results_rowtmp rfl _ _ (w.heap.size + 1) 32 _ _ rfl HB3.out.drew Tryz.underlying32 rfl (by kernel_rfl) (.int .i64 10) rfl) rfl ?_
    exact ⟨rfl, HM3.out.drew⟩

set_option maxRecDepth 100000 in
set_option maxHeartbeats 2000000 in
theorem getTree_none (F : Nat → Prop) (t e : Nat) (T : Tx) (id : Int) (w : World) (h : TxIs w F t e T) (hd : T.done = false) (hvl : ∀ c ∈ T.writes, c.val.length ≤ 100000) (hg : NoGet w e) (h0 : 1 ≤ id) (h1 : id ≤ 64) (hf : findC T.writes (keyB id 0 []) = none) :
    Calls Tryz.prog 23 #[.pointer (some ⟨t, 0, none⟩), .int .i64 id] w fun r w' => r = .returned (.tuple #[zeroT, .int .i64 10]) ∧ Mod Non w w' := by
  have HT : Hid (∀ W, Calls Tryz.prog 48 #[.int .i64 id] W fun e W' => e = .returned (.bool true) ∧ W = W') := fun W => (isTree_any id W).mono fun _ _ h => ⟨by rw [h.1, decide_eq_true ⟨h0, h1⟩], h.2⟩
  have hm0 : Mod Non w (w.alloc (.cells #[.int .i64 0, .int .i64 0, .int .i64 0, .string ⟨#[]⟩, .string ⟨#[]⟩] 32)) := (Mod.refl Non w).alloc _
  have hr0 := Blk.new w 32 #[.int .i64 0, .int .i64 0, .int .i64 0, .string ⟨#[]⟩, .string ⟨#[]⟩]
  have HK := Lib.hid fun W (hm : Mod Non w W) => getT_none F t e T id W (h.mod0 hm) hd hvl (hg.mod0 hm) (by omega) (by omega) hf
  clear h hd hvl hg hf
  unfold zeroT at HK ⊢
  go_enter Tryz.func23, Tryz.ntmps23
  go_wp2_with (go_at_call 48; refine (HT.out _).mono ?_; rintro r w9 ⟨rfl, rfl⟩)
  generalize w.alloc (.cells #[.int .i64 0, .int .i64 0, .int .i64 0, .string ⟨#[]⟩, .string ⟨#[]⟩] 32) = w0 at *
  have HM0 := Lib.hid hm0
  have HR0 := Lib.hid hr0
  refine (trees_any w0).mono ?_
  rintro r w1 ⟨rfl, hm1⟩
  have HM1 := Lib.hid (HM0.out.trans0 hm1)
  have HR1 := Lib.hid (HR0.out.mod hm1 fun h => h)
  unfold kindT at HK ⊢
  clear hm0 hr0 hm1
  go_wp2_with fail
  refine (HK.out w1 HM1.out).mono ?_
  rintro r w2 ⟨rfl, hm2⟩
  have HM2 := Lib.hid (HM1.out.trans0 hm2)
  have hr2 := HR1.out.mod hm2 fun h => h
  have HR2 := Lib.hid hr2
  obtain ⟨w3, hw3⟩ : ∃ w3, w3 = w2.alloc (.cells #[.int .i64 0, .int .i64 0, .int .i64 0, .string ⟨#[]⟩, .string ⟨#[]⟩] 32) := ⟨_, rfl⟩
  have hm3 : Mod Non w2 w3 := by rw [hw3]; exact (Mod.refl Non w2).alloc _
  have hr3 := hr2.mod hm3 fun h => h
  have hb3 : Blk w3 w2.heap.size 32 #[.int .i64 0, .int .i64 0, .int .i64 0, .string ⟨#[]⟩, .string ⟨#[]⟩] := by rw [hw3]; exact Blk.new _ _ _
  have HM3 := Lib.hid (HM2.out.trans0 hm3)
  have HR3 := Lib.hid hr3
  subst hw3
  have r0 : (w2.alloc (.cells #[.int .i64 0, .int .i64 0, .int .i64 0, .string ⟨#[]⟩, .string ⟨#[]⟩] 32)).cell? ⟨w.heap.size, 0, none⟩ = some (.int .i64 0) := hr3.cell 0
  have fr0 := hr3.frozen 0
  have b0 : (w2.alloc (.cells #[.int .i64 0, .int .i64 0, .int .i64 0, .string ⟨#[]⟩, .string ⟨#[]⟩] 32)).cell? ⟨w2.heap.size, 0, none⟩ = some (.int .i64 0) := hb3.cell 0
  have r1 : (w2.alloc (.cells #[.int .i64 0, .int .i64 0, .int .i64 0, .string ⟨#[]⟩, .string ⟨#[]⟩] 32)).cell? ⟨w.heap.size, 1, none⟩ = some (.int .i64 0) := hr3.cell 1
  have fr1 := hr3.frozen 1
  have b1 : (w2.alloc (.cells #[.int .i64 0, .int .i64 0, .int .i64 0, .string ⟨#[]⟩, .string ⟨#[]⟩] 32)).cell? ⟨w2.heap.size, 1, none⟩ = some (.int .i64 0) := hb3.cell 1
  have r2 : (w2.alloc (.cells #[.int .i64 0, .int .i64 0, .int .i64 0, .string ⟨#[]⟩, .string ⟨#[]⟩] 32)).cell? ⟨w.heap.size, 2, none⟩ = some (.int .i64 0) := hr3.cell 2
  have fr2 := hr3.frozen 2
  have b2 : (w2.alloc (.cells #[.int .i64 0, .int .i64 0, .int .i64 0, .string ⟨#[]⟩, .string ⟨#[]⟩] 32)).cell? ⟨w2.heap.size, 2, none⟩ = some (.int .i64 0) := hb3.cell 2
  have r3 : (w2.alloc (.cells #[.int .i64 0, .int .i64 0, .int .i64 0, .string ⟨#[]⟩, .string ⟨#[]⟩] 32)).cell? ⟨w.heap.size, 3, none⟩ = some (.string ⟨#[]⟩) := hr3.cell 3
  have fr3 := hr3.frozen 3
  have b3 : (w2.alloc (.cells #[.int .i64 0, .int .i64 0, .int .i64 0, .string ⟨#[]⟩, .string ⟨#[]⟩] 32)).cell? ⟨w2.heap.size, 3, none⟩ = some (.string ⟨#[]⟩) := hb3.cell 3
  have r4 : (w2.alloc (.cells #[.int .i64 0, .int .i64 0, .int .i64 0, .string ⟨#[]⟩, .string ⟨#[]⟩] 32)).cell? ⟨w.heap.size, 4, none⟩ = some (.string ⟨#[]⟩) := hr3.cell 4
  have fr4 := hr3.frozen 4
  have b4 : (w2.alloc (.cells #[.int .i64 0, .int .i64 0, .int .i64 0, .string ⟨#[]⟩, .string ⟨#[]⟩] 32)).cell? ⟨w2.heap.size, 4, none⟩ = some (.string ⟨#[]⟩) := hb3.cell 4
  have HB4 := Lib.hid (((((HR3.out.set_ 0 (.int .i64 0)).set_ 1 (.int .i64 0)).set_ 2 (.int .i64 0)).set_ 3 (.string ⟨#[]⟩)).set_ 4 (.string ⟨#[]⟩))
  have HM4 := Lib.hid (((((HM3.out.setCell (p := ⟨w.heap.size, 0, none⟩) (.inr (by simp only; omega)) (.int .i64 0)).setCell (p := ⟨w.heap.size, 1, none⟩) (.inr (by simp only; omega)) (.int .i64 0)).setCell (p := ⟨w.heap.size, 2, none⟩) (.inr (by simp only; omega)) (.int .i64 0)).setCell (p := ⟨w.heap.size, 3, none⟩) (.inr (by simp only; omega)) (.string ⟨#[]⟩)).setCell (p := ⟨w.heap.size, 4, none⟩) (.inr (by simp only; omega)) (.string ⟨#[]⟩))
  clear hm2 hr2 hm3 hr3 hb3
  go_wp2_with fail
  refine bodyPost_ret (results_rowtmp rfl _ _ w.heap.size 32 _ _ rfl HB4.out Tryz.underlying32 rfl (by kernel_rfl) (.int .i64 10) rfl) rfl ?_
  exact ⟨rfl, HM4.out⟩

end Go.Proofs.YtgnpmmhpeianpaaGreatDoor
