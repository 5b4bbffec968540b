/- The walks of CanFill (both forms). No condition but that a list has at most 1048576 elements. -/
import Derived.Test.YtabgcpoaepafjaaGreatShapeO
set_option linter.unusedSimpArgs false
set_option linter.unusedVariables false
namespace Go.Proofs.YtabgcpoaepafjaaGreat
open Go.RowKit

noncomputable def fillB (N E : List P2) (f : Int) (S : List P2) : Bool := isPaneB N E f && Shp.alikeB S (shapeV N E f)
set_option maxRecDepth 20000 in
set_option maxHeartbeats 4000000 in
theorem CanFill_any (N E S : List P2) (A B C : Option Addr) (c c' c3 : Nat) (f : Int) (w : World) (hw : WR w N E A B c c') (hl : S.length ≤ 1048576) (hr : R2 w C S) :
    Calls Tryz.prog 13 #[.agg #[.slice A N.length c, .slice B E.length c'], .int .i64 f, .slice C S.length c3] w fun e w' => e = .returned (.bool (fillB N E f S)) ∧ Ext w w' := by
  have HI := hide (fun (W : World) (hE : Ext w W) => IsPane_any N E A B c c' f W (hw.ext hE))
  have HS := hide (fun (W : World) (hE : Ext w W) => ShapeOf_any N E A B c c' f W (hw.ext hE))
  have HV := hide (show fillB N E f S = (isPaneB N E f && Shp.alikeB S (shapeV N E f)) from rfl)
  have hsl := shapeV_len (N := N) (E := E) (f := f)
  have HR := hide hr
  obtain ⟨v, hv⟩ : ∃ v, fillB N E f S = v := ⟨_, rfl⟩
  obtain ⟨p, hp⟩ : ∃ p, isPaneB N E f = p := ⟨_, rfl⟩
  obtain ⟨V, hV⟩ : ∃ V, shapeV N E f = V := ⟨_, rfl⟩
  rw [hv, hp, hV] at HV
  rw [hp] at HI
  rw [hV] at HS hsl
  rw [hv]
  clear hw hr hv hp hV
  
  go_enter Tryz.func13, Tryz.ntmps13
  go_wp2_with fail
  obtain ⟨w0, hw⟩ : ∃ w1, w1 = w.alloc (Obj.cells #[Value.slice A N.length c, Value.slice B E.length c'] 27) := ⟨_, rfl⟩; rw [← hw]; have kT : Tr [(w.heap.size, [.slice A N.length c, .slice B E.length c'])] w w0 := (by rw [hw]; exact ⟨by (first | (simp [Bx, CellsAt, go_sem, *]; done) | (simp [Bx, CellsAt, go_sem, *]; omega)), by (repeat (first | exact kE | exact Ext.refl _ | apply Ext.alloc | apply Ext.drewN | apply Ext.drew | apply Ext.set0 | apply Ext.set1 | apply Ext.set2 | apply Ext.set3 | (refine Ext.setk ?_ (by omega) _) | (apply Ext.snoc; assumption)))⟩); have HT := hide kT; clear hw kT; have kT := HT.out; simp only [Tr, Bx, CellsAt, Nat.reduceAdd, Nat.zero_add, and_true] at kT; obtain ⟨⟨kz0, kf0, kc0_0, kc0_1⟩, kE⟩ := kT
  refine (HI.out _ kE).mono ?_
  rintro e w4 ⟨rfl, hb4⟩
  have HT' := hide (HT.out.ext hb4)
  clear hb4 HT
  have HT := HT'
  clear HT'
  clear kz0 kf0 kc0_0 kc0_1 kE
  have kT := HT.out; simp only [Tr, Bx, CellsAt, Nat.reduceAdd, Nat.zero_add, and_true] at kT; obtain ⟨⟨kz0, kf0, kc0_0, kc0_1⟩, kE⟩ := kT
  have HE4 := hide kE
  cases p with
  | false =>
    have HVF := hide (show v = false from HV.out)
    go_wp2_with fail
    go_ret
    exact ⟨ret_bool HVF.out.symm, HE4.out⟩
  | true =>
    have HVA := hide (show v = Shp.alikeB S V from HV.out)
    go_wp2_with fail
    refine (HS.out _ kE).mono ?_
    rintro e w5 ⟨A5, c5, rfl, ho5, hb5⟩
    have HE5 := hide (HE4.out.trans hb5)
    have HA := hide (Shp.AreAlike_any S C c3 V A5 c5 w5 hl (by omega) (HR.out.ext HE5.out) (Rds.of_own ho5))
    clear ho5 hb5
    go_wp2_with fail
    refine HA.out.mono ?_
    rintro e w6 ⟨rfl, hb6⟩
    have HE6 := hide (HE5.out.trans hb6)
    clear hb6
    go_wp2_with fail
    go_ret
    exact ⟨ret_bool HVA.out.symm, HE6.out⟩
end Go.Proofs.YtabgcpoaepafjaaGreat
