/- Walks of WithStain and ColorStains. No condition but that a list has at most 1048576 elements. -/
import Derived.Test.YtabgcpoaepafjaaGreatOkS
import Derived.Test.YtabgcpoaepafjaaGreatMem
import Derived.Deep.AppendLies
set_option linter.unusedSimpArgs false
set_option linter.unusedVariables false
namespace Go.Proofs.YtabgcpoaepafjaaGreat
open Go.RowKit

def withOk (l : List P3) (f a b c : Int) : Bool := stainOk a b c && inR f 0 ((l.length : Int) - 1)
def withV (l : List P3) (f a b c : Int) : List P3 := if withOk l f a b c then l.set f.toNat (a, b, c) else l
theorem withV_length (l : List P3) (f a b c : Int) : (withV l f a b c).length = l.length := by unfold withV; split <;> simp
theorem enc3_set (l : List P3) (k : Nat) (a b c : Int) (hk : k < l.length) : enc3 (l.set k (a, b, c)) = (((enc3 l).set (k * 3) (.int .i64 a)).set (k * 3 + 1) (.int .i64 b)).set (k * 3 + 2) (.int .i64 c) := by
  induction l generalizing k with
  | nil => simp at hk
  | cons p l ih =>
    cases k with
    | zero => simp [enc3_cons]
    | succ k =>
      have := ih k (by simpa using hk)
      have e : (k + 1) * 3 = k * 3 + 1 + 1 + 1 := by omega
      rw [e, List.set_cons_succ, enc3_cons, enc3_cons, this]
      simp
theorem news3 {w : World} {a : Addr} {l : List P3} (h : R3 w (some a) l) : ∀ j u, (enc3 l)[j]? = some u → w.cell? (a.add j) = some u := by
  intro j u hu
  have hj : j < l.length * 3 := by rw [← enc3_length]; exact (List.getElem?_eq_some_iff.1 hu).1
  obtain ⟨b, off, e, hb, hc⟩ := h.2 (by omega)
  injection e with e
  subst e
  have ha : Addr.add ⟨b, off, none⟩ j = ⟨b, off + j, none⟩ := by unfold Addr.add; split <;> simp_all
  rw [ha]
  exact hc j u hu

set_option maxHeartbeats 1000000 in
theorem WithStain_any (l : List P3) (ad : Addr) (cp : Nat) (f a b c : Int) (w : World) (hl : l.length ≤ 1048576) (hr : R3 w (some ad) l) :
    Calls Tryz.prog 27 #[.slice (some ad) l.length cp, .int .i64 f, .agg #[.int .i64 a, .int .i64 b, .int .i64 c]] w fun e w' => ∃ Ar cr, e = .returned (.tuple #[.slice Ar (withV l f a b c).length cr, .bool (withOk l f a b c)]) ∧ w'.ownsRow w.heap.size 50 3 (.slice Ar (withV l f a b c).length cr) (withV l f a b c).length (enc3 (withV l f a b c)) ∧ Ext w w' := by
  obtain ⟨i0, hi, hz0, hz1, hz2⟩ := info_parts stain_info
  have HR := hide hr
  have HVL := hide (withV_length l f a b c)
  clear hr
  
  go_enter Tryz.func27, Tryz.ntmps27
  go_wp2_with (at_builtin; refine wpList_append_own _ rfl _ _ 40 rfl (w.heap.size + 1) 50 i0 (.agg #[.int .i64 0, .int .i64 0, .int .i64 0]) 3 24 Tryz.underlying40 hi hz0 hz1 hz2 rfl (by decide) (.slice none 0 0) 0 [] rfl (World.ownsRow_nil _ _ _ _) ad l.length cp (enc3 l) rfl (enc3_length l) (news3 (HR.out.ext (by repeat (first | exact kE | exact Ext.refl _ | apply Ext.alloc | apply Ext.drewN | apply Ext.drew | apply Ext.set0 | apply Ext.set1 | apply Ext.set2 | apply Ext.set3 | (refine Ext.setk ?_ (by omega) _) | (apply Ext.snoc; assumption))))) (enc3_one l) (by unfold maxLen; omega) (by omega) (by simp) ?_; intro v1 w1 hown1 hgrow1 hnil; have kcc : ∀ o, w1.cell? ⟨w.heap.size, o, none⟩ = (w.alloc (Obj.cells #[Value.int IntKind.i64 a, Value.int IntKind.i64 b, Value.int IntKind.i64 c] 50)).cell? ⟨w.heap.size, o, none⟩ := fun o => hgrow1.cell_far _ (by simp) (by simp [Value.ownBlock]))
  clear kcc
  simp only [Nat.zero_add, List.nil_append] at hown1
  obtain ⟨w0, hw⟩ : ∃ w0, w0 = w.alloc (Obj.cells #[Value.int IntKind.i64 a, Value.int IntKind.i64 b, Value.int IntKind.i64 c] 50) := ⟨_, rfl⟩
  have hE1 : Ext w0 w1 := by rw [hw]; exact grown_ext hgrow1
  have hT : Tr [(w.heap.size, [.int .i64 a, .int .i64 b, .int .i64 c])] w w0 := by rw [hw]; exact ⟨by simp [Bx, CellsAt, go_sem, *], by repeat (first | exact kE | exact Ext.refl _ | apply Ext.alloc | apply Ext.drewN | apply Ext.drew | apply Ext.set0 | apply Ext.set1 | apply Ext.set2 | apply Ext.set3 | (refine Ext.setk ?_ (by omega) _) | (apply Ext.snoc; assumption))⟩
  have hz : w.heap.size + 1 ≤ w0.heap.size ∧ w0.heap.size ≤ w.heap.size + 1 := by rw [hw]; simp
  have HZ := hide hz
  have HT := hide (hT.ext hE1)
  have H0 := hide hT.2
  have HE1 := hide hE1
  have HO := hide hown1
  clear hown1 hgrow1 hnil hT hw hE1 hz
  have kT := HT.out; simp only [Tr, Bx, CellsAt, Nat.reduceAdd, Nat.zero_add, and_true] at kT; obtain ⟨⟨kz0, kf0, kc0_0, kc0_1, kc0_2⟩, kE⟩ := kT
  refine (StainOk_any _ _ _ _).mono ?_; rintro e w2 ⟨rfl, hb⟩; have HT := hide (HT.out.ext hb); have Hw2 := hide hb; clear hb; clear kz0 kf0 kc0_0 kc0_1 kc0_2 kE; have kT := HT.out; simp only [Tr, Bx, CellsAt, Nat.reduceAdd, Nat.zero_add, and_true] at kT; obtain ⟨⟨kz0, kf0, kc0_0, kc0_1, kc0_2⟩, kE⟩ := kT
  have HO := hide (own_ext HO.out Hw2.out)
  obtain ⟨Ar, cr, rfl, hcr, hA0, hA1⟩ := own_slice HO.out
  by_cases h1 : stainOk a b c = true
  · by_cases h2 : inR f 0 ((l.length : Int) - 1) = true
    · have B := inR_true h2
      obtain ⟨k, rfl⟩ := Int.eq_ofNat_of_zero_le B.1
      have hk : k < l.length := by omega
      have hb : (k : Int) < (l.length : Int) := by omega
      obtain ⟨ag, rfl⟩ : ∃ ag, Ar = some ag := by
        cases Ar with
        | none => exact absurd (hA0 rfl) (by omega)
        | some ag => exact ⟨ag, rfl⟩
      obtain ⟨g, rfl, hg1, hg2, hg3⟩ := hA1 ag rfl
      clear hA0 hA1
      obtain ⟨v0, hd0⟩ := own_cell HO.out (k * 3) (by omega)
      obtain ⟨v1, hd1⟩ := own_cell HO.out (k * 3 + 1) (by omega)
      obtain ⟨v2, hd2⟩ := own_cell HO.out (k * 3 + 2) (by omega)
      have hf0 := HO.out.frozenAt (k * 3)
      have hf1 := HO.out.frozenAt (k * 3 + 1)
      have hf2 := HO.out.frozenAt (k * 3 + 2)
      have HS := hide ((((HO.out.stored (k * 3) (.int .i64 a)).1.stored (k * 3 + 1) (.int .i64 b)).1.stored (k * 3 + 2) (.int .i64 c)).1)
      have HX := hide (((((H0.out.trans HE1.out).trans Hw2.out).set (p := ⟨g, k * 3, none⟩) (Nat.le_trans (Nat.le_succ _) hg1) (.int .i64 a)).set (p := ⟨g, k * 3 + 1, none⟩) (Nat.le_trans (Nat.le_succ _) hg1) (.int .i64 b)).set (p := ⟨g, k * 3 + 2, none⟩) (Nat.le_trans (Nat.le_succ _) hg1) (.int .i64 c))
      have HE3 := hide (enc3_set l k a b c hk)
      have HV : Hid (withV l k a b c = l.set k (a, b, c)) := hide (by unfold withV withOk; rw [h1, h2, if_pos (by rfl)]; rfl)
      have HOK : Hid (withOk l k a b c = true) := hide (by unfold withOk; rw [h1, h2]; rfl)
      go_wp2_with (first | (go_at_call 67; refine (within_any _ _ _ _).mono ?_; rintro e w' ⟨rfl, rfl⟩))
      go_ret2
      refine ⟨some ⟨g, 0, none⟩, cr, ?_, ?_, HX.out⟩
      · first | (rw [HVL.out, HOK.out]; done) | (rw [HVL.out, HOK.out]; rfl)
      · rw [HVL.out, HV.out, HE3.out]
        exact own_mono HS.out (by omega)
    · have h2' : inR f 0 ((l.length : Int) - 1) = false := by simpa using h2
      have HV : Hid (withV l f a b c = l) := hide (by unfold withV withOk; rw [h2', Bool.and_false, if_neg (by simp)])
      have HOK : Hid (withOk l f a b c = false) := hide (by unfold withOk; rw [h2', Bool.and_false])
      clear h2 hA0 hA1
      go_wp2_with (first | (go_at_call 67; refine (within_any _ _ _ _).mono ?_; rintro e w' ⟨rfl, rfl⟩))
      go_ret2
      exact ⟨Ar, cr, (by first | (rw [HVL.out, HOK.out]; done) | (rw [HVL.out, HOK.out]; rfl)), by rw [HVL.out, HV.out]; exact own_mono HO.out (by omega), kE⟩
  · have h1' : stainOk a b c = false := by simpa using h1
    have HV : Hid (withV l f a b c = l) := hide (by unfold withV withOk; rw [h1', Bool.false_and, if_neg (by simp)])
    have HOK : Hid (withOk l f a b c = false) := hide (by unfold withOk; rw [h1', Bool.false_and])
    clear h1 hA0 hA1
    go_wp2_with fail
    go_ret2
    exact ⟨Ar, cr, (by first | (rw [HVL.out, HOK.out]; done) | (rw [HVL.out, HOK.out]; rfl)), by rw [HVL.out, HV.out]; exact own_mono HO.out (by omega), kE⟩
end Go.Proofs.YtabgcpoaepafjaaGreat
