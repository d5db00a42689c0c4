/- (*Disk).Names: the keys of the map, sorted. -/
import Derived.Test.YtgnpmmhpeianpaaGreatDoorB16
import Derived.Test.YtgnpmmhpeianpaaGreatDoorShelf
import Derived.Test.YtgnpmmhpeianpaaGreatDoorKeys
import Derived.TacticsInMore
import Derived.Sort.KeysCollected
namespace Go.Proofs.YtgnpmmhpeianpaaGreatDoor
open Go.RowKit Go.Maps Go.Sort Go.Shelf
open Go.WideElems (Fit)

/-- slices.Sort's two contracts at this dump, at the fence that asks nothing. -/
theorem sortsIn (m : Nat) : AnyZ.SortsIn Tryz.prog Tryz.sorted183_ren Fence.wide m :=
  ⟨fun blk off cap ss W hH hblk hsz => callsIn_wide.2 (Tryz.slices_Sort_string blk off cap ss W hH hblk hsz),
   fun p cap W => callsIn_wide.2 (Tryz.slices_Sort_string_none p cap W)⟩

theorem keys_any (mb : Option Nat) (W : World) : CallsIn Fence.wide 5 Tryz.prog 184 #[.map mb] W fun e w' => e = .returned (.func (.func 240) #[] #[.pointer (some ⟨W.heap.size, 0, none⟩)]) ∧ w' = W.alloc (.cells #[.map mb] 114) :=
  AnyZ.keys_in Tryz.keys184 Fence.wide 5 trivial rfl mb W

set_option maxHeartbeats 1000000 in
theorem sorted_any {H : Type} (b nn : Nat) (D0 : DataW H) (R : Value → Option (DataW H × List MemPlace)) (w : World) (hown : w.ownsMap Tryz.prog 9 R b nn D0) (hmax : Maps.size D0 ≤ maxLen) (hbytes : Maps.size D0 * 16 ≤ 140737488355328) :
    CallsIn Fence.wide 5 Tryz.prog 183 #[.func (.func 240) #[] #[.pointer (some ⟨w.heap.size, 0, none⟩)]] (w.alloc (.cells #[.map (some b)] 114)) fun e w' => ∃ (v : Value) (ss : List (List UInt8)), e = .returned v ∧ ss.Perm (strKeys D0) ∧
      w'.ownsRow (w.alloc (.cells #[.map (some b)] 114)).heap.size 9 1 v ss.length ((ss.mergeSort (fun x y => decide (x ≤ y))).map encStr) ∧ (v = .slice none 0 0 ↔ ss = []) ∧ Below (w.alloc (.cells #[.map (some b)] 114)).heap.size (w.alloc (.cells #[.map (some b)] 114)) w' := by
  have hbl := hown.lt
  have hseq : SeqGives Fence.wide 2 Tryz.prog 240 #[.pointer (some ⟨w.heap.size, 0, none⟩)] encStr (fun ss => ss.Perm (strKeys D0)) (Maps.size D0) (w.alloc (.cells #[.map (some b)] 114)) :=
    AnyZ.keys_gives (ρ := Tryz.keys184_ren) { Tryz.keys184 with } Fence.wide _ trivial rfl (by omega) w.heap.size b nn D0 _ (by simp) (by simp) (by
      obtain ⟨es, clock, hb, Ft, hs, hD⟩ := hown
      exact ⟨es, clock, (Below.heap_alloc _ _ b hbl).trans hb, Ft, hs, hD⟩)
  exact AnyZ.sorted_in Tryz.sorted183 Fence.wide 5 trivial trivial trivial trivial rfl (by omega) (sortsIn _) (enters_of Tryz.func239 (by kernel_rfl) rfl) 240 #[.pointer (some ⟨w.heap.size, 0, none⟩)] trivial (enters_of Tryz.func240 (by kernel_rfl) rfl) _ _ hmax hbytes _ hseq

/-- a map of the kit's, out of ours. -/
def rdNil : Value → Option (DataW Unit × List MemPlace) := fun _ => some (.nil, [])
theorem own_of_map {w : World} {m : Nat} {kvs : List (ByteArray × Value)} (h : MapAt Value.string w m kvs) (hk : ∀ p ∈ kvs, p.1.size ≤ maxLen) (hl : kvs.length ≤ maxLen) :
    ∃ D0 : DataW Unit, w.ownsMap Tryz.prog 9 rdNil m kvs.length D0 ∧ (strKeys D0).Perm (kvs.map fun p => p.1.data.toList) ∧ Maps.size D0 = kvs.length := by
  obtain ⟨es, clock, hb, hst, hes⟩ := h
  have hlen : es.size = kvs.length := by
    have := congrArg List.length hes
    simpa using this
  have hget : ∀ x ∈ es.toList, ∃ p ∈ kvs, x.key = Value.string p.1 := by
    intro x hx
    have : (x.key, x.val) ∈ es.toList.map (fun e => (e.key, e.val)) := List.mem_map.2 ⟨x, hx, rfl⟩
    rw [hes] at this
    obtain ⟨p, hp, he⟩ := List.mem_map.1 this
    exact ⟨p, hp, (congrArg Prod.fst he).symm⟩
  have hrd : ∀ x ∈ es.toList, ∀ p : ByteArray, x.key = Value.string p → p.size ≤ maxLen → Go.WideElems.rd Tryz.prog 9 rdNil x = some (.string p.data.toList, .nil) := by
    intro x hx p hp hs
    unfold Go.WideElems.rd
    rw [hp, Go.WideMaps.keyOf_string_mk Tryz.underlying9 hs]
    rfl
  have F : Fit Tryz.prog 9 rdNil es clock := ⟨by omega, hst, fun x hx => by
    obtain ⟨p, hp, he⟩ := hget x hx
    exact ⟨_, hrd x hx p.1 he (hk p hp)⟩⟩
  refine ⟨_, ⟨es, clock, hb, F, by omega, rfl⟩, ?_, ?_⟩
  · show (((es.toList.map (Go.WideElems.rg Tryz.prog 9 rdNil)).foldr DataW.insert []).map fun p => strOf p.1).Perm _
    refine ((Go.WideShapes.sorted_perm _).map _).trans ?_
    rw [List.map_map]
    have : es.toList.map ((fun p => strOf p.1) ∘ Go.WideElems.rg Tryz.prog 9 rdNil) = kvs.map fun p => p.1.data.toList := by
      have h2 : es.toList.map (fun e => match e.key with | .string s => s.data.toList | _ => []) = kvs.map fun p => p.1.data.toList := by
        have := congrArg (List.map fun q : Value × Value => match q.1 with | .string s => s.data.toList | _ => ([] : List UInt8)) hes
        simpa [List.map_map, Function.comp_def] using this
      rw [← h2]
      refine List.map_congr_left fun x hx => ?_
      obtain ⟨p, hp, he⟩ := hget x hx
      have h3 := hrd x hx p.1 he (hk p hp)
      simp only [Function.comp]
      rw [Go.WideElems.rg_of h3, he]
      rfl
    rw [this]
  · show ((es.toList.map (Go.WideElems.rg Tryz.prog 9 rdNil)).foldr DataW.insert []).length = _
    rw [(Go.WideShapes.sorted_perm _).length_eq]
    simp [hlen]

theorem usedF_ge : ∀ fs : List Fl, (fs.length : Int) * 16 ≤ usedF fs
  | [] => by simp [usedF]
  | f :: r => by
    have := usedF_ge r
    simp only [usedF, costF, List.length_cons]
    omega
theorem files_len {D : Dk} (ok : DkOk D) : D.files.length * 16 ≤ 1099511627776 := by
  have h1 := usedF_ge D.files
  have h2 := ok.us; have h3 := ok.u1; have h4 := ok.n1
  omega
theorem filesAt_names {w : World} {G : Nat → Prop} : ∀ {kvs : List (ByteArray × Value)} {fs : List Fl}, FilesAt w G kvs fs → kvs.map (·.1) = fs.map (·.name)
  | [], [], _ => rfl
  | p :: r, f :: s, h => by rw [List.map_cons, List.map_cons, h.1.1, filesAt_names h.2]
  | [], _ :: _, h => h.elim
  | _ :: _, [], h => h.elim
theorem named_size {s : ByteArray} (h : named s = true) : s.size ≤ 100 := by
  unfold named at h
  simp only [Bool.and_eq_true, decide_eq_true_eq] at h
  exact h.2.1

/-- the names that Names hands back. -/
def NamesAre (D : Dk) (L : List ByteArray) : Prop := ∃ ss : List (List UInt8), ss.Perm (D.files.map fun f => f.name.data.toList) ∧ L = (ss.mergeSort fun x y => decide (x ≤ y)).map fun l => ⟨l.toArray⟩

set_option maxRecDepth 100000 in
set_option maxHeartbeats 1000000 in
theorem names_any (F : Nat → Prop) (d : Nat) (D : Dk) (w : World) (h : DiskIs w F d D) (ok : DkOk D) :
    Calls Tryz.prog 120 #[.pointer (some ⟨d, 0, none⟩)] w fun e w' => ∃ A n c L, e = .returned (.slice A n c) ∧ NamesAre D L ∧ Rd w' A n (L.map Value.string) ∧ n ≤ c ∧ c ≤ 9223372036854775807 ∧ (∀ b, blkOf A = some b → w.heap.size ≤ b) ∧ Below w.heap.size w w' := by
  obtain ⟨G, m, kvs, hA, _⟩ := h
  have c2 : w.cell? ⟨d, 2, none⟩ = some (.map (some m)) := hA.blk.cell 2
  have hnm := filesAt_names hA.files
  have hlen : kvs.length = D.files.length := by simpa using congrArg List.length hnm
  have hfl := files_len ok
  have hmx : maxLen = 9223372036854775807 := rfl
  obtain ⟨D0, hown, hperm, hsize⟩ := own_of_map hA.map (fun p hp => by
    have : p.1 ∈ kvs.map (·.1) := List.mem_map.2 ⟨p, hp, rfl⟩
    rw [hnm] at this
    obtain ⟨f, hf, he⟩ := List.mem_map.1 this
    rw [← he]
    have := named_size (ok.nm f hf)
    omega) (by omega)
  have cS := Lib.hid (sorted_any m kvs.length D0 rdNil w hown (by omega) (by omega))
  have hp2 : (kvs.map fun p => p.1.data.toList) = D.files.map fun f => f.name.data.toList := by
    have := congrArg (List.map fun s : ByteArray => s.data.toList) hnm
    simpa [List.map_map, Function.comp_def] using this
  rw [hp2] at hperm
  have HP := Lib.hid hperm
  have HM := Lib.hid (made_yes d m w c2)
  clear hperm hp2 hown hsize hnm hA
  refine (callsIn_wide (n := 6)).1 ?_
  have hfK : Fence.wide.fn 184 := trivial
  have hfS : Fence.wide.fn 183 := trivial
  have hfM : Fence.wide.fn 168 := trivial
  refine callsIn_of_wp Tryz.func120 rfl trivial ?_ rfl
  simp only [Tryz.ntmps120, List.size_toArray, List.length_cons, List.length_nil, Nat.reduceAdd, Nat.reduceSub, Array.replicate_succ, Array.replicate_zero, List.push_toArray, List.append_toArray, List.nil_append, List.cons_append]
  gi_wp2_with (first
    | (gi_at_call 168; refine (callsIn_wide.2 HM.out).mono ?_; rintro e w' ⟨rfl, rfl⟩)
    | (gi_at_call 184; refine (keys_any _ _).mono ?_; rintro e w' ⟨rfl, rfl⟩)
    | (gi_at_call 183; refine cS.out.mono ?_; rintro e w' ⟨v, ss, rfl, hS, hrow, hnil, hb⟩))
  go_ret
  obtain ⟨A, c, rfl, hnc, hcm⟩ := own_slice hrow
  have hbase := own_base hrow
  refine ⟨A, ss.length, c, (ss.mergeSort fun x y => decide (x ≤ y)).map fun l => ⟨l.toArray⟩, rfl, ⟨ss, hS.trans HP.out, rfl⟩, ?_, hnc, by omega, fun b hbk => by have := hbase b hbk; simp at this; omega, ((Below.refl _ w).alloc (Nat.le_refl _) _).trans (hb.mono (by simp))⟩
  rw [List.map_map]
  exact Rd.of_own hrow

end Go.Proofs.YtgnpmmhpeianpaaGreatDoor
