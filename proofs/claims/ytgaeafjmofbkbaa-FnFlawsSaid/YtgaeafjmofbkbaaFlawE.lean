/- Walks of IsClear. No condition but that a list has at most 1048576 elements. -/
import Derived.Test.YtgaeafjmofbkbaaFlawD
set_option linter.unusedSimpArgs false
set_option linter.unusedVariables false
namespace Go.Proofs.Ytgaeafjmofbkbaa
open Go.RowKit

def clearB (W H : Int) (l : List P2) (a p : P2) : Bool := flawedOk W H l && sheetOk p.1 p.2 && inR a.1 0 (W - p.1) && inR a.2 0 (H - p.2) && l.all (fun s => !lies s a p)
theorem flawed_sheet {W H : Int} {l : List P2} (h : flawedOk W H l = true) : sheetOk W H = true := by
  simp only [flawedOk, Bool.and_eq_true] at h
  exact h.1.1
theorem countTo_all {l : List P2} {a p : P2} (h : l.all (fun s => !lies s a p) = true) : ∀ k, countTo l a p k = 0
  | 0 => rfl
  | k + 1 => by
    rw [countTo, countTo_all h k]
    cases hk : l[k]? with
    | none => rfl
    | some s =>
      have hm := List.mem_of_getElem? hk
      have := List.all_eq_true.1 h s hm
      have hs : lies s a p = false := by simpa using this
      simp [hs]
theorem countTo_some {l : List P2} {a p : P2} : ∀ (k : Nat), k ≤ l.length → (∃ s ∈ l.take k, lies s a p = true) → 0 < countTo l a p k
  | 0, _, h => by simp at h
  | k + 1, hk, ⟨s, hs, hl⟩ => by
    rcases (mem_take_succ l s k (by omega)).1 hs with h | h
    · have := countTo_some k (by omega) ⟨s, h, hl⟩
      rw [countTo]
      omega
    · by_cases hm : s ∈ l.take k
      · have := countTo_some k (by omega) ⟨s, hm, hl⟩
        rw [countTo]
        omega
      · have hlt : k < l.length := by omega
        rw [countTo_hit hlt (by rw [h]; exact hl) (by rw [h]; exact hm)]
        omega
theorem countTo_zero (l : List P2) (a p : P2) : (countTo l a p l.length = 0) ↔ l.all (fun s => !lies s a p) = true := by
  constructor
  · intro h
    rw [List.all_eq_true]
    intro s hs
    rcases hv : lies s a p with _ | _
    · rfl
    · have := countTo_some (a := a) (p := p) l.length (Nat.le_refl _) ⟨s, by simpa using hs, hv⟩
      omega
  · intro h
    exact countTo_all h _
set_option maxHeartbeats 1000000 in
theorem IsClear_any (W H : Int) (l : List P2) (A : Option Addr) (c : Nat) (a0 a1 p0 p1 : Int) (w : World) (hl : l.length ≤ 1048576) (hr : R2 w A l) :
    Calls Try.prog 8 #[.agg #[.int .i64 W, .int .i64 H, .slice A l.length c], .agg #[.int .i64 a0, .int .i64 a1], .agg #[.int .i64 p0, .int .i64 p1]] w fun e w' => e = .returned (.bool (clearB W H l (a0, a1) (p0, p1))) ∧ Ext w w' := by
  have HR := hide hr
  clear hr
  by_cases h1 : flawedOk W H l = true
  · have B1 := sheetOk_true (flawed_sheet h1)
    by_cases h2 : sheetOk p0 p1 = true
    · have B2 := sheetOk_true h2
      by_cases h3 : inR a0 0 (W - p0) = true
      · have B3 := inR_true h3
        by_cases h4 : inR a1 0 (H - p1) = true
        · have B4 := inR_true h4
          go_enter Try.func8, Try.ntmps8
          go_wp2_with fail
          obtain ⟨w1, hw1⟩ : ∃ w1, w1 = (((w.alloc (Obj.cells #[Value.int IntKind.i64 W, Value.int IntKind.i64 H, Value.slice A l.length c] 28)).alloc (Obj.cells #[Value.int IntKind.i64 a0, Value.int IntKind.i64 a1] 32)).alloc (Obj.cells #[Value.int IntKind.i64 p0, Value.int IntKind.i64 p1] 25)) := ⟨_, rfl⟩
          rw [← hw1]
          have cc : w1.cell? ⟨w.heap.size, 0, none⟩ = some (.int .i64 W) ∧ w1.cell? ⟨w.heap.size, 1, none⟩ = some (.int .i64 H) ∧ w1.cell? ⟨w.heap.size, 2, none⟩ = some (.slice A l.length c) ∧ w1.cell? ⟨w.heap.size + 1, 0, none⟩ = some (.int .i64 a0) ∧ w1.cell? ⟨w.heap.size + 1, 1, none⟩ = some (.int .i64 a1) ∧ w1.cell? ⟨w.heap.size + 1 + 1, 0, none⟩ = some (.int .i64 p0) ∧ w1.cell? ⟨w.heap.size + 1 + 1, 1, none⟩ = some (.int .i64 p1) := by rw [hw1]; simp [go_sem, *]
          obtain ⟨w1c0, w1c1, w1c2, w1c3, w1c4, w1c5, w1c6⟩ := cc
          have w1z0 : w.heap.size < w1.heap.size := by rw [hw1]; simp; try omega
          have w1z1 : w.heap.size + 1 < w1.heap.size := by rw [hw1]; simp; try omega
          have w1z2 : w.heap.size + 1 + 1 < w1.heap.size := by rw [hw1]; simp; try omega
          have Ew1 : Ext w w1 := by rw [hw1]; repeat (first | exact kE | exact Ext.refl _ | apply Ext.alloc | apply Ext.drewN | apply Ext.drew | apply Ext.set0 | apply Ext.set1 | apply Ext.set2 | apply Ext.set3 | (refine Ext.setk ?_ (by omega) _) | (apply Ext.snoc; assumption))
          clear hw1
          refine (FlawedOk_any W H l A c _ hl (HR.out.ext Ew1)).mono ?_; rintro e w2 ⟨rfl, hb2⟩
          have w2c0 : w2.cell? ⟨w.heap.size, 0, none⟩ = some (.int .i64 W) := (hb2.facts.1 _ 0 w1z0).trans w1c0
          have w2c1 : w2.cell? ⟨w.heap.size, 1, none⟩ = some (.int .i64 H) := (hb2.facts.1 _ 1 w1z0).trans w1c1
          have w2c2 : w2.cell? ⟨w.heap.size, 2, none⟩ = some (.slice A l.length c) := (hb2.facts.1 _ 2 w1z0).trans w1c2
          have w2z0 : w.heap.size < w2.heap.size := hb2.facts.2.2 _ w1z0
          have w2c3 : w2.cell? ⟨w.heap.size + 1, 0, none⟩ = some (.int .i64 a0) := (hb2.facts.1 _ 0 w1z1).trans w1c3
          have w2c4 : w2.cell? ⟨w.heap.size + 1, 1, none⟩ = some (.int .i64 a1) := (hb2.facts.1 _ 1 w1z1).trans w1c4
          have w2z1 : w.heap.size + 1 < w2.heap.size := hb2.facts.2.2 _ w1z1
          have w2c5 : w2.cell? ⟨w.heap.size + 1 + 1, 0, none⟩ = some (.int .i64 p0) := (hb2.facts.1 _ 0 w1z2).trans w1c5
          have w2c6 : w2.cell? ⟨w.heap.size + 1 + 1, 1, none⟩ = some (.int .i64 p1) := (hb2.facts.1 _ 1 w1z2).trans w1c6
          have w2z2 : w.heap.size + 1 + 1 < w2.heap.size := hb2.facts.2.2 _ w1z2
          have Ew2 := Ew1.trans hb2
          clear hb2 Ew1 w1c0 w1c1 w1c2 w1c3 w1c4 w1c5 w1c6 w1z0 w1z1 w1z2
          go_wp2_with fail
          refine (SheetOk_any _ _ _).mono ?_; rintro e w3 ⟨rfl, hb3⟩
          have w3c0 : w3.cell? ⟨w.heap.size, 0, none⟩ = some (.int .i64 W) := (hb3.facts.1 _ 0 w2z0).trans w2c0
          have w3c1 : w3.cell? ⟨w.heap.size, 1, none⟩ = some (.int .i64 H) := (hb3.facts.1 _ 1 w2z0).trans w2c1
          have w3c2 : w3.cell? ⟨w.heap.size, 2, none⟩ = some (.slice A l.length c) := (hb3.facts.1 _ 2 w2z0).trans w2c2
          have w3z0 : w.heap.size < w3.heap.size := hb3.facts.2.2 _ w2z0
          have w3c3 : w3.cell? ⟨w.heap.size + 1, 0, none⟩ = some (.int .i64 a0) := (hb3.facts.1 _ 0 w2z1).trans w2c3
          have w3c4 : w3.cell? ⟨w.heap.size + 1, 1, none⟩ = some (.int .i64 a1) := (hb3.facts.1 _ 1 w2z1).trans w2c4
          have w3z1 : w.heap.size + 1 < w3.heap.size := hb3.facts.2.2 _ w2z1
          have w3c5 : w3.cell? ⟨w.heap.size + 1 + 1, 0, none⟩ = some (.int .i64 p0) := (hb3.facts.1 _ 0 w2z2).trans w2c5
          have w3c6 : w3.cell? ⟨w.heap.size + 1 + 1, 1, none⟩ = some (.int .i64 p1) := (hb3.facts.1 _ 1 w2z2).trans w2c6
          have w3z2 : w.heap.size + 1 + 1 < w3.heap.size := hb3.facts.2.2 _ w2z2
          have Ew3 := Ew2.trans hb3
          clear hb3 Ew2 w2c0 w2c1 w2c2 w2c3 w2c4 w2c5 w2c6 w2z0 w2z1 w2z2
          go_wp2_with (first | (go_at_call 15; refine (within_any _ _ _ _).mono ?_; rintro e w' ⟨rfl, rfl⟩))
          have Hw3 := hide (And.intro w3c0 (And.intro w3c1 (And.intro w3c2 (And.intro w3c3 (And.intro w3c4 (And.intro w3c5 (And.intro w3c6 (And.intro w3z0 (And.intro w3z1 (And.intro w3z2 Ew3))))))))))
          clear w3c0 w3c1 w3c2 w3c3 w3c4 w3c5 w3c6 w3z0 w3z1 w3z2 Ew3
          go_loopw [44] (fun i wr => ∃ k : Nat, k ≤ l.length ∧ i = .int .i64 k ∧ Hid ((l.take k).all (fun s => !lies s (a0, a1) (p0, p1)) = true) ∧ Ext w3 wr) (fun i _ => l.length - (intOf i).toNat)
          case atStart => exact ⟨0, Nat.zero_le _, rfl, hide (by simp), Ext.refl _⟩
          case round =>
            obtain ⟨k, hk, rfl, hp, hE⟩ := hrel
            obtain ⟨w3c0, w3c1, w3c2, w3c3, w3c4, w3c5, w3c6, w3z0, w3z1, w3z2, Ew3⟩ := Hw3.out
            have wrc0 : wr.cell? ⟨w.heap.size, 0, none⟩ = some (.int .i64 W) := (hE.facts.1 _ 0 w3z0).trans w3c0
            have wrc1 : wr.cell? ⟨w.heap.size, 1, none⟩ = some (.int .i64 H) := (hE.facts.1 _ 1 w3z0).trans w3c1
            have wrc2 : wr.cell? ⟨w.heap.size, 2, none⟩ = some (.slice A l.length c) := (hE.facts.1 _ 2 w3z0).trans w3c2
            have wrz0 : w.heap.size < wr.heap.size := hE.facts.2.2 _ w3z0
            have wrc3 : wr.cell? ⟨w.heap.size + 1, 0, none⟩ = some (.int .i64 a0) := (hE.facts.1 _ 0 w3z1).trans w3c3
            have wrc4 : wr.cell? ⟨w.heap.size + 1, 1, none⟩ = some (.int .i64 a1) := (hE.facts.1 _ 1 w3z1).trans w3c4
            have wrz1 : w.heap.size + 1 < wr.heap.size := hE.facts.2.2 _ w3z1
            have wrc5 : wr.cell? ⟨w.heap.size + 1 + 1, 0, none⟩ = some (.int .i64 p0) := (hE.facts.1 _ 0 w3z2).trans w3c5
            have wrc6 : wr.cell? ⟨w.heap.size + 1 + 1, 1, none⟩ = some (.int .i64 p1) := (hE.facts.1 _ 1 w3z2).trans w3c6
            have wrz2 : w.heap.size + 1 + 1 < wr.heap.size := hE.facts.2.2 _ w3z2
            clear w3c0 w3c1 w3c2 w3c3 w3c4 w3c5 w3c6 w3z0 w3z1 w3z2
            by_cases hlt : k < l.length
            · have hs := spot_small h1 hlt
              obtain ⟨b, off, rfl, hb, e0, e1⟩ := R2.at_ (HR.out.ext (Ew3.trans hE)) hlt
              go_wp2_with (go_at_call 16; refine (liesIn_any _ _ _ _ _ _ _ (by omega) (by omega)).mono ?_; rintro e w5 ⟨rfl, hb5⟩)
              all_goals first
                | (have hv : lies l[k] (a0, a1) (p0, p1) = true := by assumption
                   go_ret
                   exact ⟨ret_bool (by unfold clearB; rw [all_false_at l _ k hlt (by simp [hv]), Bool.and_false]), by repeat (first | exact kE | exact Ext.refl _ | apply Ext.alloc | apply Ext.drewN | apply Ext.drew | apply Ext.set0 | apply Ext.set1 | apply Ext.set2 | apply Ext.set3 | (refine Ext.setk ?_ (by omega) _) | (apply Ext.snoc; assumption))⟩)
                | (have hv : lies l[k] (a0, a1) (p0, p1) = false := by (first | assumption | ((try simp only [Bool.not_eq_true'] at *); (try simp only [Bool.not_eq_false'] at *); (try simp only [Bool.not_eq_true] at *); assumption))
                   go_roundw
                   (case rel => exact ⟨k + 1, by omega, by go_num, hide (by rw [all_take_succ l _ k hlt, hp.out]; simp [hv]), by repeat (first | exact kE | exact Ext.refl _ | apply Ext.alloc | apply Ext.drewN | apply Ext.drew | apply Ext.set0 | apply Ext.set1 | apply Ext.set2 | apply Ext.set3 | (refine Ext.setk ?_ (by omega) _) | (apply Ext.snoc; assumption))⟩)
                   (case measure => simp [intOf]; omega))
            · go_wp2
              go_ret
              exact ⟨ret_bool (by unfold clearB; rw [← all_of_take l _ k hlt, hp.out]; simp [h1, h2, h3, h4]), by repeat (first | exact kE | exact Ext.refl _ | apply Ext.alloc | apply Ext.drewN | apply Ext.drew | apply Ext.set0 | apply Ext.set1 | apply Ext.set2 | apply Ext.set3 | (refine Ext.setk ?_ (by omega) _) | (apply Ext.snoc; assumption))⟩
        · go_enter Try.func8, Try.ntmps8
          go_wp2_with (first | (go_at_call 11; refine (FlawedOk_any W H l A c _ hl (Rds.ext HR.out (by repeat (first | exact kE | exact Ext.refl _ | apply Ext.alloc | apply Ext.drewN | apply Ext.drew | apply Ext.set0 | apply Ext.set1 | apply Ext.set2 | apply Ext.set3 | (refine Ext.setk ?_ (by omega) _) | (apply Ext.snoc; assumption))))).mono ?_; rintro e w2 ⟨rfl, hb2⟩; obtain ⟨hc2, hf2, _⟩ := hb2.facts; have hs2 := hb2.size; (try simp only [World.size_alloc] at hs2); have hz2_0 : w.heap.size < w2.heap.size := (by omega); have hz2_1 : w.heap.size + 1 < w2.heap.size := (by omega); have hz2_2 : w.heap.size + 1 + 1 < w2.heap.size := (by omega)) | (go_at_call 14; refine (SheetOk_any _ _ _).mono ?_; rintro e w4 ⟨rfl, hb4⟩; obtain ⟨hc4, hf4, _⟩ := hb4.facts; have hs4 := hb4.size; (try simp only [World.size_alloc] at hs4); have hz4_0 : w.heap.size < w4.heap.size := (by omega); have hz4_1 : w.heap.size + 1 < w4.heap.size := (by omega); have hz4_2 : w.heap.size + 1 + 1 < w4.heap.size := (by omega)) | (go_at_call 15; refine (within_any _ _ _ _).mono ?_; rintro e w' ⟨rfl, rfl⟩))
          go_ret
          exact ⟨ret_bool (by simp [clearB, h4]), by repeat (first | exact kE | exact Ext.refl _ | apply Ext.alloc | apply Ext.drewN | apply Ext.drew | apply Ext.set0 | apply Ext.set1 | apply Ext.set2 | apply Ext.set3 | (refine Ext.setk ?_ (by omega) _) | (apply Ext.snoc; assumption))⟩
      · go_enter Try.func8, Try.ntmps8
        go_wp2_with (first | (go_at_call 11; refine (FlawedOk_any W H l A c _ hl (Rds.ext HR.out (by repeat (first | exact kE | exact Ext.refl _ | apply Ext.alloc | apply Ext.drewN | apply Ext.drew | apply Ext.set0 | apply Ext.set1 | apply Ext.set2 | apply Ext.set3 | (refine Ext.setk ?_ (by omega) _) | (apply Ext.snoc; assumption))))).mono ?_; rintro e w2 ⟨rfl, hb2⟩; obtain ⟨hc2, hf2, _⟩ := hb2.facts; have hs2 := hb2.size; (try simp only [World.size_alloc] at hs2); have hz2_0 : w.heap.size < w2.heap.size := (by omega); have hz2_1 : w.heap.size + 1 < w2.heap.size := (by omega); have hz2_2 : w.heap.size + 1 + 1 < w2.heap.size := (by omega)) | (go_at_call 14; refine (SheetOk_any _ _ _).mono ?_; rintro e w4 ⟨rfl, hb4⟩; obtain ⟨hc4, hf4, _⟩ := hb4.facts; have hs4 := hb4.size; (try simp only [World.size_alloc] at hs4); have hz4_0 : w.heap.size < w4.heap.size := (by omega); have hz4_1 : w.heap.size + 1 < w4.heap.size := (by omega); have hz4_2 : w.heap.size + 1 + 1 < w4.heap.size := (by omega)) | (go_at_call 15; refine (within_any _ _ _ _).mono ?_; rintro e w' ⟨rfl, rfl⟩))
        go_ret
        exact ⟨ret_bool (by simp [clearB, h3]), by repeat (first | exact kE | exact Ext.refl _ | apply Ext.alloc | apply Ext.drewN | apply Ext.drew | apply Ext.set0 | apply Ext.set1 | apply Ext.set2 | apply Ext.set3 | (refine Ext.setk ?_ (by omega) _) | (apply Ext.snoc; assumption))⟩
    · go_enter Try.func8, Try.ntmps8
      go_wp2_with (first | (go_at_call 11; refine (FlawedOk_any W H l A c _ hl (Rds.ext HR.out (by repeat (first | exact kE | exact Ext.refl _ | apply Ext.alloc | apply Ext.drewN | apply Ext.drew | apply Ext.set0 | apply Ext.set1 | apply Ext.set2 | apply Ext.set3 | (refine Ext.setk ?_ (by omega) _) | (apply Ext.snoc; assumption))))).mono ?_; rintro e w2 ⟨rfl, hb2⟩; obtain ⟨hc2, hf2, _⟩ := hb2.facts; have hs2 := hb2.size; (try simp only [World.size_alloc] at hs2); have hz2_0 : w.heap.size < w2.heap.size := (by omega); have hz2_1 : w.heap.size + 1 < w2.heap.size := (by omega); have hz2_2 : w.heap.size + 1 + 1 < w2.heap.size := (by omega)) | (go_at_call 14; refine (SheetOk_any _ _ _).mono ?_; rintro e w4 ⟨rfl, hb4⟩; obtain ⟨hc4, hf4, _⟩ := hb4.facts; have hs4 := hb4.size; (try simp only [World.size_alloc] at hs4); have hz4_0 : w.heap.size < w4.heap.size := (by omega); have hz4_1 : w.heap.size + 1 < w4.heap.size := (by omega); have hz4_2 : w.heap.size + 1 + 1 < w4.heap.size := (by omega)) | (go_at_call 15; refine (within_any _ _ _ _).mono ?_; rintro e w' ⟨rfl, rfl⟩))
      go_ret
      exact ⟨ret_bool (by simp [clearB, h2]), by repeat (first | exact kE | exact Ext.refl _ | apply Ext.alloc | apply Ext.drewN | apply Ext.drew | apply Ext.set0 | apply Ext.set1 | apply Ext.set2 | apply Ext.set3 | (refine Ext.setk ?_ (by omega) _) | (apply Ext.snoc; assumption))⟩
  · go_enter Try.func8, Try.ntmps8
    go_wp2_with (first | (go_at_call 11; refine (FlawedOk_any W H l A c _ hl (Rds.ext HR.out (by repeat (first | exact kE | exact Ext.refl _ | apply Ext.alloc | apply Ext.drewN | apply Ext.drew | apply Ext.set0 | apply Ext.set1 | apply Ext.set2 | apply Ext.set3 | (refine Ext.setk ?_ (by omega) _) | (apply Ext.snoc; assumption))))).mono ?_; rintro e w2 ⟨rfl, hb2⟩; obtain ⟨hc2, hf2, _⟩ := hb2.facts; have hs2 := hb2.size; (try simp only [World.size_alloc] at hs2); have hz2_0 : w.heap.size < w2.heap.size := (by omega); have hz2_1 : w.heap.size + 1 < w2.heap.size := (by omega); have hz2_2 : w.heap.size + 1 + 1 < w2.heap.size := (by omega)) | (go_at_call 14; refine (SheetOk_any _ _ _).mono ?_; rintro e w4 ⟨rfl, hb4⟩; obtain ⟨hc4, hf4, _⟩ := hb4.facts; have hs4 := hb4.size; (try simp only [World.size_alloc] at hs4); have hz4_0 : w.heap.size < w4.heap.size := (by omega); have hz4_1 : w.heap.size + 1 < w4.heap.size := (by omega); have hz4_2 : w.heap.size + 1 + 1 < w4.heap.size := (by omega)) | (go_at_call 15; refine (within_any _ _ _ _).mono ?_; rintro e w' ⟨rfl, rfl⟩))
    go_ret
    exact ⟨ret_bool (by simp [clearB, h1]), by repeat (first | exact kE | exact Ext.refl _ | apply Ext.alloc | apply Ext.drewN | apply Ext.drew | apply Ext.set0 | apply Ext.set1 | apply Ext.set2 | apply Ext.set3 | (refine Ext.setk ?_ (by omega) _) | (apply Ext.snoc; assumption))⟩
end Go.Proofs.Ytgaeafjmofbkbaa
