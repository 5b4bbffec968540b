/- Walks of LargestClear. No condition but that a list has at most 1048576 elements. -/
import Derived.Test.YtgaeafjmofbkbaaFlawG
set_option linter.unusedSimpArgs false
set_option linter.unusedVariables false
namespace Go.Proofs.Ytgaeafjmofbkbaa
open Go.RowKit

def someClear (W H : Int) (l : List P2) (a b : Int) : Prop := ∃ x y : Int, clearB W H l (x, y) (a, b) = true
theorem someClear_ok {W H : Int} {l : List P2} {a b x y : Int} {ok : Bool} (h : FC W H l (a, b) x y ok) : someClear W H l a b ↔ ok = true := by
  rcases h with ⟨rfl, h1, _⟩ | ⟨rfl, _, _, h2⟩
  · exact ⟨fun _ => rfl, fun _ => ⟨_, _, h1⟩⟩
  · exact ⟨fun ⟨x, y, h⟩ => (by rw [h2] at h; cases h), fun h => (by cases h)⟩
/-- v is the greatest area of a clear rectangle of those in D. -/
def LCd (W H : Int) (l : List P2) (D : Int → Int → Prop) (v : Int) : Prop := 0 ≤ v ∧ (v = 0 ∨ ∃ a b, D a b ∧ someClear W H l a b ∧ v = a * b) ∧ ∀ a b, D a b → someClear W H l a b → a * b ≤ v
abbrev LC (W H : Int) (l : List P2) (v : Int) : Prop := LCd W H l (fun a b => 1 ≤ a ∧ a ≤ W ∧ 1 ≤ b ∧ b ≤ H) v
theorem LCd.uniq {W H : Int} {l : List P2} {D : Int → Int → Prop} {v v' : Int} (h : LCd W H l D v) (h' : LCd W H l D v') : v = v' := by
  obtain ⟨h0, h1, h2⟩ := h
  obtain ⟨k0, k1, k2⟩ := h'
  have a1 : v ≤ v' := by
    rcases h1 with rfl | ⟨a, b, hd, hs, rfl⟩
    · exact k0
    · exact k2 a b hd hs
  have a2 : v' ≤ v := by
    rcases k1 with rfl | ⟨a, b, hd, hs, rfl⟩
    · exact h0
    · exact h2 a b hd hs
  omega
theorem LCd.none {W H : Int} {l : List P2} {D : Int → Int → Prop} (h : ∀ a b, D a b → ¬ someClear W H l a b) : LCd W H l D 0 :=
  ⟨Int.le_refl _, .inl rfl, fun a b hd hs => absurd hs (h a b hd)⟩
theorem LCd.same {W H : Int} {l : List P2} {D D' : Int → Int → Prop} {v : Int} (h : LCd W H l D v) (hD : ∀ x y, D' x y ↔ D x y) : LCd W H l D' v := by
  obtain ⟨h0, h1, h2⟩ := h
  refine ⟨h0, ?_, fun a b hd hs => h2 a b ((hD a b).1 hd) hs⟩
  rcases h1 with h1 | ⟨a, b, hd, hs, e⟩
  · exact .inl h1
  · exact .inr ⟨a, b, (hD a b).2 hd, hs, e⟩
theorem LCd.skip {W H : Int} {l : List P2} {D D' : Int → Int → Prop} {v a b : Int} (h : LCd W H l D v) (hn : a * b ≤ v ∨ ¬ someClear W H l a b) (hD : ∀ x y, D' x y ↔ D x y ∨ (x = a ∧ y = b)) : LCd W H l D' v := by
  obtain ⟨h0, h1, h2⟩ := h
  refine ⟨h0, ?_, fun x y hd hs => ?_⟩
  · rcases h1 with h1 | ⟨x, y, hd, hs, e⟩
    · exact .inl h1
    · exact .inr ⟨x, y, (hD x y).2 (.inl hd), hs, e⟩
  · rcases (hD x y).1 hd with h3 | ⟨rfl, rfl⟩
    · exact h2 x y h3 hs
    · rcases hn with h4 | h4
      · exact h4
      · exact absurd hs h4
theorem LCd.take {W H : Int} {l : List P2} {D D' : Int → Int → Prop} {v a b : Int} (h : LCd W H l D v) (hn : v ≤ a * b) (hs : someClear W H l a b) (hD : ∀ x y, D' x y ↔ D x y ∨ (x = a ∧ y = b)) : LCd W H l D' (a * b) := by
  obtain ⟨h0, h1, h2⟩ := h
  refine ⟨by omega, .inr ⟨a, b, (hD a b).2 (.inr ⟨rfl, rfl⟩), hs, rfl⟩, fun x y hd hs' => ?_⟩
  rcases (hD x y).1 hd with h3 | ⟨rfl, rfl⟩
  · have := h2 x y h3 hs'
    omega
  · exact Int.le_refl _
theorem LCd.ex (W H : Int) (l : List P2) (D : Int → Int → Prop) (hD : ∀ a b, D a b → 0 ≤ a ∧ 0 ≤ b ∧ a * b ≤ 1600) : ∃ v, LCd W H l D v := by
  have key : ∀ n : Nat, (∃ v, LCd W H l D v) ∨ ∀ a b, D a b → someClear W H l a b → a * b ≤ 1600 - n := by
    intro n
    induction n with
    | zero => exact .inr (fun a b hd _ => by have := (hD a b hd).2.2; omega)
    | succ n ih =>
      rcases ih with h | h
      · exact .inl h
      · by_cases he : ∃ a b, D a b ∧ someClear W H l a b ∧ a * b = 1600 - n
        · obtain ⟨a, b, hd, hs, e⟩ := he
          refine .inl ⟨a * b, Int.mul_nonneg (hD a b hd).1 (hD a b hd).2.1, .inr ⟨a, b, hd, hs, rfl⟩, fun x y hd' hs' => ?_⟩
          have := h x y hd' hs'
          omega
        · refine .inr (fun a b hd hs => ?_)
          have h1 := h a b hd hs
          have h2 : a * b ≠ 1600 - n := fun e => he ⟨a, b, hd, hs, e⟩
          omega
  rcases key 1601 with h | h
  · exact h
  · refine ⟨0, LCd.none (fun a b hd hs => ?_)⟩
    have h1 := h a b hd hs
    have h2 := Int.mul_nonneg (hD a b hd).1 (hD a b hd).2.1
    omega
theorem LC.ex (W H : Int) (l : List P2) : ∃ v, LC W H l v := by
  by_cases h : flawedOk W H l = true
  · have B := sheetOk_true (flawed_sheet h)
    refine LCd.ex W H l _ (fun a b ⟨h1, h2, h3, h4⟩ => ⟨by omega, by omega, ?_⟩)
    have : a * b ≤ 40 * 40 := Int.mul_le_mul (by omega) (by omega) (by omega) (by omega)
    omega
  · exact ⟨0, LCd.none (fun a b _ ⟨x, y, hc⟩ => h (clearB_in hc).1)⟩

set_option maxHeartbeats 1000000 in
theorem LargestClear_any (W H : Int) (l : List P2) (A : Option Addr) (c : Nat) (v : Int) (w : World) (hl : l.length ≤ 1048576) (hr : R2 w A l) (hv : LC W H l v) :
    Calls Try.prog 10 #[.agg #[.int .i64 W, .int .i64 H, .slice A l.length c]] w fun e w' => e = .returned (.int .i64 v) ∧ Ext w w' := by
  have HR := hide hr
  have HV := hide hv
  clear hr hv
  
  go_enter Try.func10, Try.ntmps10
  go_wp2_with fail
  obtain ⟨w1, hw⟩ : ∃ w1, w1 = (w.alloc (Obj.cells #[Value.int IntKind.i64 W, Value.int IntKind.i64 H, Value.slice A l.length c] 28)) := ⟨_, rfl⟩; rw [← hw]; have kT : Tr [(w.heap.size, [.int .i64 W, .int .i64 H, .slice A l.length c])] w w1 := (by rw [hw]; exact ⟨by (first | (simp [Bx, CellsAt, go_sem, *]; done) | (simp [Bx, CellsAt, go_sem, *]; omega)), by (repeat (first | exact kE | exact Ext.refl _ | apply Ext.alloc | apply Ext.drewN | apply Ext.drew | apply Ext.set0 | apply Ext.set1 | apply Ext.set2 | apply Ext.set3 | (refine Ext.setk ?_ (by omega) _) | (apply Ext.snoc; assumption)))⟩); have HT := hide kT; clear hw kT; have kT := HT.out; simp only [Tr, Bx, CellsAt, Nat.reduceAdd, Nat.zero_add, and_true] at kT; obtain ⟨⟨kz0, kf0, kc0_0, kc0_1, kc0_2⟩, kE⟩ := kT
  refine (FlawedOk_any W H l A c _ hl (HR.out.ext kE)).mono ?_; rintro e w2 ⟨rfl, hb⟩; have HT := hide (HT.out.ext hb); have Hw2 := hide hb; clear hb; clear kz0 kf0 kc0_0 kc0_1 kc0_2 kE; have kT := HT.out; simp only [Tr, Bx, CellsAt, Nat.reduceAdd, Nat.zero_add, and_true] at kT; obtain ⟨⟨kz0, kf0, kc0_0, kc0_1, kc0_2⟩, kE⟩ := kT
  by_cases h1 : flawedOk W H l = true
  · have B1 := sheetOk_true (flawed_sheet h1)
    go_wp2_with fail
    clear kz0 kf0 kc0_0 kc0_1 kc0_2 kE
    go_loopw [3, 4] (fun n i wr => ∃ (i' : Nat) (m : Int), 1 ≤ i' ∧ i' ≤ W.toNat + 1 ∧ i = .int .i64 i' ∧ n = .int .i64 m ∧ Hid (LCd W H l (fun a b => 1 ≤ b ∧ b ≤ H ∧ 1 ≤ a ∧ a < (i' : Int)) m) ∧ Ext w2 wr) (fun _ i _ => W.toNat + 1 - (intOf i).toNat)
    case atStart => exact ⟨1, 0, by omega, by omega, rfl, rfl, hide (LCd.none (fun a b hd => by omega)), Ext.refl _⟩
    case round =>
      obtain ⟨i, m, hi1, hi2, rfl, rfl, hp, hE⟩ := hrel
      have HE0 := hide hE
      have HT := hide (HT.out.ext hE); clear hE; have kT := HT.out; simp only [Tr, Bx, CellsAt, Nat.reduceAdd, Nat.zero_add, and_true] at kT; obtain ⟨⟨kz0, kf0, kc0_0, kc0_1, kc0_2⟩, kE⟩ := kT
      by_cases hlt : (i : Int) ≤ W
      · obtain ⟨wo, rfl⟩ : ∃ wo : World, wo = wr := ⟨_, rfl⟩
        go_wp2_with fail
        clear kz0 kf0 kc0_0 kc0_1 kc0_2 kE
        go_loopw [3, 5] (fun n j wi => ∃ (j' : Nat) (m : Int), 1 ≤ j' ∧ j' ≤ H.toNat + 1 ∧ j = .int .i64 j' ∧ n = .int .i64 m ∧ Hid (LCd W H l (fun a b => (1 ≤ b ∧ b ≤ H ∧ 1 ≤ a ∧ a < (i : Int)) ∨ (a = i ∧ 1 ≤ b ∧ b < (j' : Int))) m) ∧ Ext wo wi) (fun _ j _ => H.toNat + 1 - (intOf j).toNat)
        case atStart => exact ⟨1, m, by omega, by omega, rfl, rfl, hide (LCd.same hp.out (fun x y => by constructor <;> intro h <;> omega)), Ext.refl _⟩
        case round =>
          obtain ⟨j, m, hj1, hj2, rfl, rfl, hq, hE⟩ := hrel
          have HI := hide hE
          have HT := hide (HT.out.ext hE); clear hE; have kT := HT.out; simp only [Tr, Bx, CellsAt, Nat.reduceAdd, Nat.zero_add, and_true] at kT; obtain ⟨⟨kz0, kf0, kc0_0, kc0_1, kc0_2⟩, kE⟩ := kT
          by_cases hlt2 : (j : Int) ≤ H
          · have hm1 : (i : Int) * (j : Int) ≤ 1600 := by
              have : (i : Int) * (j : Int) ≤ 40 * 40 := Int.mul_le_mul (by omega) (by omega) (by omega) (by omega)
              omega
            have hm2 : 0 ≤ (i : Int) * (j : Int) := Int.mul_nonneg (by omega) (by omega)
            by_cases hbest : (i : Int) * (j : Int) ≤ m
            · go_wp2_with fail
              go_roundw
              case rel => exact ⟨j + 1, m, by omega, by omega, by go_num, rfl, hide (LCd.skip (a := (i : Int)) (b := (j : Int)) hq.out (.inl hbest) (fun x y => by constructor <;> intro h <;> omega)), HI.out⟩
              case measure => simp [intOf]; omega
            · obtain ⟨ra, rb, ok, hf⟩ := FC.ex W H l ((i : Int), (j : Int))
              have HF := hide hf
              clear hf
              go_wp2_with fail
              refine (FirstClear_any W H l A c _ _ ra rb ok _ hl (HR.out.ext kE) HF.out).mono ?_; rintro e w5 ⟨rfl, hb⟩; have HT := hide (HT.out.ext hb); have Hw5 := hide hb; clear hb; clear kz0 kf0 kc0_0 kc0_1 kc0_2 kE; have kT := HT.out; simp only [Tr, Bx, CellsAt, Nat.reduceAdd, Nat.zero_add, and_true] at kT; obtain ⟨⟨kz0, kf0, kc0_0, kc0_1, kc0_2⟩, kE⟩ := kT
              have HS := hide (someClear_ok HF.out)
              cases ok
              · go_wp2_with fail
                go_roundw
                case rel => exact ⟨j + 1, m, by omega, by omega, by go_num, rfl, hide (LCd.skip (a := (i : Int)) (b := (j : Int)) hq.out (.inr (fun hs => by have := HS.out.1 hs; cases this)) (fun x y => by constructor <;> intro h <;> omega)), by have hE := HI.out.trans Hw5.out; clear kE; repeat (first | exact kE | exact Ext.refl _ | apply Ext.alloc | apply Ext.drewN | apply Ext.drew | apply Ext.set0 | apply Ext.set1 | apply Ext.set2 | apply Ext.set3 | (refine Ext.setk ?_ (by omega) _) | (apply Ext.snoc; assumption))⟩
                case measure => simp [intOf]; omega
              · go_wp2_with fail
                go_roundw
                case rel => exact ⟨j + 1, _, by omega, by omega, by go_num, rfl, hide (LCd.take (a := (i : Int)) (b := (j : Int)) hq.out (by omega) (HS.out.2 (by first | rfl | trivial)) (fun x y => by constructor <;> intro h <;> omega)), by have hE := HI.out.trans Hw5.out; clear kE; repeat (first | exact kE | exact Ext.refl _ | apply Ext.alloc | apply Ext.drewN | apply Ext.drew | apply Ext.set0 | apply Ext.set1 | apply Ext.set2 | apply Ext.set3 | (refine Ext.setk ?_ (by omega) _) | (apply Ext.snoc; assumption))⟩
                case measure => simp [intOf]; omega
          · go_wp2_with fail
            go_roundw
            case rel => exact ⟨i + 1, m, by omega, by omega, by go_num, rfl, hide (LCd.same hq.out (fun x y => by constructor <;> intro h <;> omega)), HE0.out.trans HI.out⟩
            case measure => simp [intOf]; omega
      · have he := LCd.uniq HV.out (LCd.same hp.out (fun x y => by constructor <;> intro h <;> omega))
        subst he
        go_wp2_with fail
        go_ret
        exact ⟨rfl, by repeat (first | exact kE | exact Ext.refl _ | apply Ext.alloc | apply Ext.drewN | apply Ext.drew | apply Ext.set0 | apply Ext.set1 | apply Ext.set2 | apply Ext.set3 | (refine Ext.setk ?_ (by omega) _) | (apply Ext.snoc; assumption))⟩
  · have h1' : flawedOk W H l = false := by simpa using h1
    have he := LCd.uniq HV.out (LCd.none (fun a b _ ⟨x, y, hc⟩ => h1 (clearB_in hc).1))
    subst he
    clear h1
    go_wp2_with fail
    go_ret
    exact ⟨rfl, by repeat (first | exact kE | exact Ext.refl _ | apply Ext.alloc | apply Ext.drewN | apply Ext.drew | apply Ext.set0 | apply Ext.set1 | apply Ext.set2 | apply Ext.set3 | (refine Ext.setk ?_ (by omega) _) | (apply Ext.snoc; assumption))⟩
end Go.Proofs.Ytgaeafjmofbkbaa
