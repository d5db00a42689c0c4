/- code.PutFrame. -/
import Derived.Test.YtgdamcimpgapgaaGreatDoorCode5
namespace Go.Proofs.YtgdamcimpgapgaaGreatDoor
open Go.RowKit

/-- a frame's bytes. -/
def frameB (l : List UInt8) : List UInt8 := numB l.length ++ (high4 (crcOf (numB l.length ++ l)) ++ l)

theorem flat4 (a b c d : Bs) : flat [a, b, c, d] = a.l ++ (b.l ++ (c.l ++ d.l)) := by simp [flat]

/-- four slices laid in a new block. -/
theorem rd_four (w : World) (t : TypeId) (a b c d : Bs) : Rd (w.alloc (.cells #[a.val, b.val, c.val, d.val] t)) (some ⟨w.heap.size, 0, none⟩) 4 ([a, b, c, d].map Bs.val) := by
  refine ⟨rfl, fun _ => ⟨w.heap.size, 0, rfl, fun j u hu => ?_⟩⟩
  rw [Nat.zero_add, World.cell?_alloc_new]
  match j, hu with
  | 0, hu => simpa using hu
  | 1, hu => simpa using hu
  | 2, hu => simpa using hu
  | 3, hu => simpa using hu
theorem rd_two (w : World) (t : TypeId) (a b : Bs) : Rd (w.alloc (.cells #[a.val, b.val] t)) (some ⟨w.heap.size, 0, none⟩) 2 ([a, b].map Bs.val) := by
  refine ⟨rfl, fun _ => ⟨w.heap.size, 0, rfl, fun j u hu => ?_⟩⟩
  rw [Nat.zero_add, World.cell?_alloc_new]
  match j, hu with
  | 0, hu => simpa using hu
  | 1, hu => simpa using hu

set_option maxRecDepth 100000 in
set_option maxHeartbeats 1000000 in
theorem putFrame_any (A B : Option Addr) (n c m d : Nat) (l k : List UInt8) (w : World) (h : Rd w A n (by8 l)) (g : Rd w B m (by8 k)) (hn : n + m ≤ 140737488300000) :
    Calls Tryz.prog 34 #[.slice A n c, .slice B m d] w fun e w' => ∃ A' n' c', e = .returned (.slice A' n' c') ∧ n' = (l ++ frameB k).length ∧
      w'.ownsRow w.heap.size 5 1 (.slice A' n' c') n' (by8 (l ++ frameB k)) ∧ Below w.heap.size w w' := by
  have hl : l.length = n := by simpa using h.1
  have hm : k.length = m := by simpa using g.1
  have h9 := numB_len9 (n := m) (by omega)
  have hcl : clampN (m : Int) = m := clampN_of (by omega)
  have hcr := crcOf_bd (numB m ++ k)
  have HCL := Lib.hid hcl
  have HL := Lib.hid hl
  have HM := Lib.hid hm
  clear hcl hl hm
  go_enter Tryz.func34, Tryz.ntmps34
  go_wp2_with (first
    | (go_at_call 65
       refine (putNum_any none 0 0 [] (m : Int) _ (Rd.nil _ _) (by omega)).mono ?_
       rintro e w1 ⟨A1, c1, rfl, ho1, hb1⟩
       rw [HCL.out, Nat.zero_add, List.nil_append] at ho1
       rw [HCL.out, Nat.zero_add]
       have g1 := g.mod0 (Mod.of_below hb1)
       have h1 := h.mod0 (Mod.of_below hb1))
    | (go_at_call 67
       refine (laid_any A1 B (numB m).length c1 m d (numB m) k _ (Rd.of_own ho1) g1 (by omega)).mono ?_
       rintro e w2 ⟨A2, c2, rfl, ho2, hb2⟩
       have g2 := g1.mod0 (Mod.of_below hb2)
       have h2 := h1.mod0 (Mod.of_below hb2)
       have r2 := (Rd.of_own ho1).mod0 (Mod.of_below hb2))
    | (go_at_call 66
       refine (crc_any A2 _ c2 (numB m ++ k) _ (Rd.of_own ho2) (by omega)).mono ?_
       rintro e w' ⟨rfl, rfl⟩)
    | (go_at_call 69
       refine (high4_any _ _ (by omega) (by omega)).mono ?_
       rintro e w3 ⟨A3, c3, rfl, ho3, hb3⟩
       have g3 := g2.mod0 (Mod.of_below hb3)
       have h3 := h2.mod0 (Mod.of_below hb3)
       have r3 := r2.mod0 (Mod.of_below hb3))
    | (go_at_call 68
       have hfl : flat [⟨A, n, c, l⟩, ⟨A1, (numB m).length, c1, numB m⟩, ⟨A3, 4, c3, high4 (crcOf (numB m ++ k))⟩, ⟨B, m, d, k⟩] = l ++ frameB k := by
         rw [flat4]; unfold frameB; rw [HM.out]
       have hln : (l ++ frameB k).length = n + ((numB m).length + (4 + m)) := by
         unfold frameB; rw [HM.out]; simp only [List.length_append]; rw [HL.out, HM.out]; rfl
       have hok : ∀ b ∈ [(⟨A, n, c, l⟩ : Bs), ⟨A1, (numB m).length, c1, numB m⟩, ⟨A3, 4, c3, high4 (crcOf (numB m ++ k))⟩, ⟨B, m, d, k⟩], Rd (w3.alloc (.cells #[Value.slice A n c, Value.slice A1 (numB m).length c1, Value.slice A3 4 c3, Value.slice B m d] 31)) b.A b.n (by8 b.l) := by
         intro b hb
         simp only [List.mem_cons, List.not_mem_nil, or_false] at hb
         rcases hb with rfl | rfl | rfl | rfl
         · exact h3.alloc _
         · exact r3.alloc _
         · exact (Rd.of_own ho3).alloc _
         · exact g3.alloc _
       have hcon := concat_any _ 4 4 [⟨A, n, c, l⟩, ⟨A1, (numB m).length, c1, numB m⟩, ⟨A3, 4, c3, high4 (crcOf (numB m ++ k))⟩, ⟨B, m, d, k⟩] _ (rd_four w3 31 ⟨A, n, c, l⟩ ⟨A1, (numB m).length, c1, numB m⟩ ⟨A3, 4, c3, high4 (crcOf (numB m ++ k))⟩ ⟨B, m, d, k⟩) hok (by rw [hfl, hln]; omega) (by omega)
       rw [hfl] at hcon
       obtain ⟨N, hN⟩ : ∃ N, (l ++ frameB k).length = N := ⟨_, rfl⟩
       rw [hN] at hcon
       have HN := Lib.hid hN
       refine hcon.mono ?_
       clear hcon hok hfl hln hN
       rintro e w4 ⟨A4, c4, rfl, ho4, hb4⟩))
  go_ret
  have b1 : Below w.heap.size w w3 := hb1.trans ((hb2.trans (hb3.mono hb2.size)).mono hb1.size)
  have b2 := b1.alloc b1.size (.cells #[Value.slice A n c, Value.slice A1 (numB m).length c1, Value.slice A3 4 c3, Value.slice B m d] 31)
  exact ⟨A4, _, c4, rfl, HN.out.symm, own_mono ho4 b2.size, b2.trans (hb4.mono b2.size)⟩

end Go.Proofs.YtgdamcimpgapgaaGreatDoor
