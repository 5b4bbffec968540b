/- The walk of the program's paneSet. No condition but a whole window. -/
import Derived.Test.YtkgbilbicdiadaaNear
set_option linter.unusedSimpArgs false
set_option linter.unusedVariables false
namespace Go.Proofs.Ytkgbilbicdiadaa
open Go.RowKit

/-- The outer face of a whole window. -/
noncomputable def oN (N E : List P2) : Nat := (fcs N E).findIdx (fun l => decide (areaL N E l ≤ 0))
theorem outer_nat {N E : List P2} (h : wholeB N E = true) : outerI N E = (oN N E : Nat) ∧ oN N E < (fcs N E).length := by
  have hf := fcs_facts h
  have e : fcs N E = facesL N E := by unfold fcs; rw [if_pos h]
  obtain ⟨l, hl, ha⟩ := outer_some (N := N) (E := E) (by omega)
  rw [← e] at hl
  have hlt : oN N E < (fcs N E).length := List.findIdx_lt_length_of_exists ⟨l, hl, by simpa using ha⟩
  refine ⟨?_, hlt⟩
  unfold oN at hlt ⊢
  unfold outerI
  rw [if_pos hlt]
/-- The set of all faces but face o. -/
def panesN (n o : Nat) : Nat := (2 ^ n - 1) ^^^ ((2 ^ n - 1) &&& 2 ^ o)
theorem panes_bit (n o i : Nat) : (panesN n o).testBit i = (decide (i < n) && !decide (i = o)) := by
  unfold panesN
  rw [Nat.testBit_xor, Nat.testBit_and, Nat.testBit_two_pow_sub_one, Nat.testBit_two_pow, show decide (o = i) = decide (i = o) from by rw [decide_eq_decide]; exact eq_comm]
  cases decide (i < n) <;> cases decide (i = o) <;> rfl
theorem panes_lt (n o : Nat) : panesN n o < 2 ^ n := by
  refine Nat.lt_pow_two_of_testBit _ fun i hi => ?_
  rw [panes_bit]
  simp
  omega
theorem pow_word {n : Nat} (hn : n < 62) : IntKind.i64.wrap ((2 : Int) ^ n) = ((2 ^ n : Nat) : Int) := shl_one hn
theorem pow_pred {n : Nat} (hn : n < 62) : IntKind.i64.wrap (IntKind.i64.wrap ((2 : Int) ^ n) - 1) = ((2 ^ n - 1 : Nat) : Int) := by
  have h : 2 ^ n < 2 ^ 62 := Nat.pow_lt_pow_right (by decide) hn
  have h0 : 0 < 2 ^ n := Nat.two_pow_pos n
  rw [shl_one hn, IntKind.wrap_i64]
  omega
theorem panes_word {n o : Nat} (hn : n ≤ 40) (ho : o < n) : bits .andNot .i64 (IntKind.i64.wrap (IntKind.i64.wrap ((2 : Int) ^ n) - 1)) (IntKind.i64.wrap ((2 : Int) ^ o)) = (panesN n o : Nat) := by
  have h : 2 ^ n ≤ 2 ^ 40 := Nat.pow_le_pow_right (by decide) hn
  have h1 : 2 ^ o < 2 ^ n := Nat.pow_lt_pow_right (by decide) ho
  rw [pow_pred (by omega), shl_one (by omega), i64_andNot _ _ (by omega) (by omega)]
  rfl
set_option maxRecDepth 20000 in
set_option maxHeartbeats 4000000 in
theorem paneSet_any (N E : List P2) (A B : Option Addr) (c c' : Nat) (w : World) (hw : WR w N E A B c c') (hwh : wholeB N E = true) :
    Calls Try.prog 102 #[.agg #[.slice A N.length c, .slice B E.length c']] w fun e w' => e = .returned (.int .i64 (panesN (fcs N E).length (oN N E) : Nat)) ∧ Ext w w' := by
  have HFO := hide (fun (W : World) (hE : Ext w W) => (FacesOf_any N E A B c c' W (hw.ext hE)).mono (R' := fun e w' => ∃ A2 c2, e = .returned (.slice A2 (fcs N E).length c2) ∧ Ext W w') (by rintro e w' ⟨A2, c2, h1, _, _, _, _, h2⟩; exact ⟨A2, c2, h1, h2⟩))
  have HOF := hide (fun (W : World) (hE : Ext w W) => OuterFace_any N E A B c c' W (hw.ext hE))
  obtain ⟨ho1, ho2⟩ := outer_nat hwh
  have hl40 := fcs_len (N := N) (E := E)
  rw [ho1] at HOF
  obtain ⟨n, hn⟩ : ∃ n, (fcs N E).length = n := ⟨_, rfl⟩
  obtain ⟨o, ho⟩ : ∃ o, oN N E = o := ⟨_, rfl⟩
  rw [hn] at hl40 ho2 HFO ⊢
  rw [ho] at ho2 HOF ⊢
  have HP := hide (panes_word hl40 ho2)
  clear hw hwh ho1 hn ho
  
  go_enter Try.func102, Try.ntmps102
  go_wp2_with fail
  obtain ⟨w0, hw⟩ : ∃ w1, w1 = w.alloc (Obj.cells #[Value.slice A N.length c, Value.slice B E.length c'] 27) := ⟨_, rfl⟩; rw [← hw]; have kT : Tr [(w.heap.size, [.slice A N.length c, .slice B E.length c'])] w w0 := (by rw [hw]; exact ⟨by (first | (simp [Bx, CellsAt, go_sem, *]; done) | (simp [Bx, CellsAt, go_sem, *]; omega)), by (repeat (first | exact kE | exact Ext.refl _ | apply Ext.alloc | apply Ext.drewN | apply Ext.drew | apply Ext.set0 | apply Ext.set1 | apply Ext.set2 | apply Ext.set3 | (refine Ext.setk ?_ (by omega) _) | (apply Ext.snoc; assumption)))⟩); have HT := hide kT; clear hw kT; have kT := HT.out; simp only [Tr, Bx, CellsAt, Nat.reduceAdd, Nat.zero_add, and_true] at kT; obtain ⟨⟨kz0, kf0, kc0_0, kc0_1⟩, kE⟩ := kT
  have HW0 := hide kE
  go_region_held3 (fun w' => (∀ (q o : Nat), q < w0.heap.size → w'.cell? ⟨q, o, none⟩ = w0.cell? ⟨q, o, none⟩) ∧ Ext w0 w') ((apply ExtS; repeat (first | exact kE | exact Ext.refl _ | apply Ext.alloc | apply Ext.drewN | apply Ext.drew | apply Ext.set0 | apply Ext.set1 | apply Ext.set2 | apply Ext.set3 | (refine Ext.setk ?_ (by omega) _) | (apply Ext.snoc; assumption)))) ((first | (go_at_call 87; refine (HFO.out _ (HW0.out.trans (by clear kE; repeat (first | exact kE | exact Ext.refl _ | apply Ext.alloc | apply Ext.drewN | apply Ext.drew | apply Ext.set0 | apply Ext.set1 | apply Ext.set2 | apply Ext.set3 | (refine Ext.setk ?_ (by omega) _) | (apply Ext.snoc; assumption))))).mono ?_; rintro e w3 ⟨A2, c2, rfl, hb3⟩)  |  (go_at_call 111; refine (HOF.out _ (HW0.out.trans (by clear kE; repeat (first | exact kE | exact Ext.refl _ | apply Ext.alloc | apply Ext.drewN | apply Ext.drew | apply Ext.set0 | apply Ext.set1 | apply Ext.set2 | apply Ext.set3 | (refine Ext.setk ?_ (by omega) _) | (apply Ext.snoc; assumption))))).mono ?_; rintro e w5 ⟨rfl, hb5⟩)))
  have HE5 := hide (HW0.out.trans (((Ext.refl w0).drew.trans hb3).trans hb5))
  clear hb3 hb5
  rw [HP.out]
  go_wp2_with fail
  go_ret
  exact ⟨rfl, HE5.out⟩
end Go.Proofs.Ytkgbilbicdiadaa
