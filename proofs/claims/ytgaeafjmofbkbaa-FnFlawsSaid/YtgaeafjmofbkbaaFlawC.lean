/- Walks of the chapter on flaws: counting spots, clear places. No condition but that a list has at most 1048576 elements. -/
import Derived.Test.YtgaeafjmofbkbaaRegR
import Derived.Test.YtgaeafjmofbkbaaFlawB
import Derived.Test.YtgaeafjmofbkbaaSlices2
set_option linter.unusedSimpArgs false
set_option linter.unusedVariables false
namespace Go.Proofs.Ytgaeafjmofbkbaa
open Go.RowKit

/-- How many of the first k spots lie in the rectangle, equal ones counted once. -/
def countTo (l : List P2) (a p : P2) : Nat → Nat
  | 0 => 0
  | k + 1 => countTo l a p k + (match l[k]? with | some s => if lies s a p && !decide (s ∈ l.take k) then 1 else 0 | none => 0)
theorem countTo_le (l : List P2) (a p : P2) : ∀ k, countTo l a p k ≤ k
  | 0 => Nat.le_refl _
  | k + 1 => by
    have := countTo_le l a p k
    unfold countTo
    cases l[k]? with
    | none => simp; omega
    | some s => simp only; split <;> omega
theorem countTo_hit {l : List P2} {a p : P2} {k : Nat} (h : k < l.length) (h1 : lies l[k] a p = true) (h2 : ¬ l[k] ∈ l.take k) : countTo l a p (k + 1) = countTo l a p k + 1 := by
  simp [countTo, h, h1, h2]
theorem countTo_out {l : List P2} {a p : P2} {k : Nat} (h : k < l.length) (h1 : lies l[k] a p = false) : countTo l a p (k + 1) = countTo l a p k := by
  simp [countTo, h, h1]
theorem countTo_seen {l : List P2} {a p : P2} {k : Nat} (h : k < l.length) (h2 : l[k] ∈ l.take k) : countTo l a p (k + 1) = countTo l a p k := by
  simp [countTo, h, h2]
def countOk (W H : Int) (l : List P2) (a : P2) : Bool := flawedOk W H l && inR a.1 (-1000) 1000 && inR a.2 (-1000) 1000
def spots (W H : Int) (l : List P2) (a p : P2) : Int := if countOk W H l a then countTo l a p l.length else 0
theorem spot_small {W H : Int} {l : List P2} (h : flawedOk W H l = true) {k : Nat} (hk : k < l.length) : 0 ≤ l[k].1 ∧ l[k].1 < W ∧ 0 ≤ l[k].2 ∧ l[k].2 < H ∧ W ≤ 40 ∧ H ≤ 40 ∧ l.length ≤ 12 := by
  simp only [flawedOk, Bool.and_eq_true, List.all_eq_true, decide_eq_true_eq] at h
  have := h.2 l[k] (List.getElem_mem hk)
  have hs := sheetOk_true h.1.1
  simp [spotIn, inR] at this
  omega
set_option maxHeartbeats 1000000 in
theorem CountSpots_any (W H : Int) (l : List P2) (A : Option Addr) (c : Nat) (a0 a1 p0 p1 : Int) (w : World) (hl : l.length ≤ 1048576) (hcap : l.length ≤ c) (hr : R2 w A l) :
    Calls Try.prog 9 #[.agg #[.int .i64 W, .int .i64 H, .slice A l.length c], .agg #[.int .i64 a0, .int .i64 a1], .agg #[.int .i64 p0, .int .i64 p1]] w fun e w' => e = .returned (.int .i64 (spots W H l (a0, a1) (p0, p1))) ∧ Ext w w' := by
  have HR := hide hr
  clear hr
  by_cases h1 : flawedOk W H l = true
  · by_cases h2 : inR a0 (-1000) 1000 = true
    · by_cases h3 : inR a1 (-1000) 1000 = true
      · have B2 := inR_true h2
        have B3 := inR_true h3
        go_enter Try.func9, Try.ntmps9
        go_wp2_with fail
        obtain ⟨w1, hw1⟩ : ∃ w1, w1 = (((w.alloc (Obj.cells #[Value.int IntKind.i64 W, Value.int IntKind.i64 H, Value.slice A l.length c] 28)).alloc (Obj.cells #[Value.int IntKind.i64 a0, Value.int IntKind.i64 a1] 32)).alloc (Obj.cells #[Value.int IntKind.i64 p0, Value.int IntKind.i64 p1] 25)) := ⟨_, rfl⟩
        rw [← hw1]
        have cc : w1.cell? ⟨w.heap.size, 0, none⟩ = some (.int .i64 W) ∧ w1.cell? ⟨w.heap.size, 1, none⟩ = some (.int .i64 H) ∧ w1.cell? ⟨w.heap.size, 2, none⟩ = some (.slice A l.length c) ∧ w1.cell? ⟨w.heap.size + 1, 0, none⟩ = some (.int .i64 a0) ∧ w1.cell? ⟨w.heap.size + 1, 1, none⟩ = some (.int .i64 a1) ∧ w1.cell? ⟨w.heap.size + 1 + 1, 0, none⟩ = some (.int .i64 p0) ∧ w1.cell? ⟨w.heap.size + 1 + 1, 1, none⟩ = some (.int .i64 p1) := by rw [hw1]; simp [go_sem, *]
        obtain ⟨w1c0, w1c1, w1c2, w1c3, w1c4, w1c5, w1c6⟩ := cc
        have w1z0 : w.heap.size < w1.heap.size := by rw [hw1]; simp; try omega
        have w1z1 : w.heap.size + 1 < w1.heap.size := by rw [hw1]; simp; try omega
        have w1z2 : w.heap.size + 1 + 1 < w1.heap.size := by rw [hw1]; simp; try omega
        have Ew1 : Ext w w1 := by rw [hw1]; repeat (first | exact kE | exact Ext.refl _ | apply Ext.alloc | apply Ext.drewN | apply Ext.drew | apply Ext.set0 | apply Ext.set1 | apply Ext.set2 | apply Ext.set3 | (refine Ext.setk ?_ (by omega) _) | (apply Ext.snoc; assumption))
        clear hw1
        refine (FlawedOk_any W H l A c _ hl (HR.out.ext Ew1)).mono ?_; rintro e w2 ⟨rfl, hb2⟩
        have w2c0 : w2.cell? ⟨w.heap.size, 0, none⟩ = some (.int .i64 W) := (hb2.facts.1 _ 0 w1z0).trans w1c0
        have w2c1 : w2.cell? ⟨w.heap.size, 1, none⟩ = some (.int .i64 H) := (hb2.facts.1 _ 1 w1z0).trans w1c1
        have w2c2 : w2.cell? ⟨w.heap.size, 2, none⟩ = some (.slice A l.length c) := (hb2.facts.1 _ 2 w1z0).trans w1c2
        have w2z0 : w.heap.size < w2.heap.size := hb2.facts.2.2 _ w1z0
        have w2c3 : w2.cell? ⟨w.heap.size + 1, 0, none⟩ = some (.int .i64 a0) := (hb2.facts.1 _ 0 w1z1).trans w1c3
        have w2c4 : w2.cell? ⟨w.heap.size + 1, 1, none⟩ = some (.int .i64 a1) := (hb2.facts.1 _ 1 w1z1).trans w1c4
        have w2z1 : w.heap.size + 1 < w2.heap.size := hb2.facts.2.2 _ w1z1
        have w2c5 : w2.cell? ⟨w.heap.size + 1 + 1, 0, none⟩ = some (.int .i64 p0) := (hb2.facts.1 _ 0 w1z2).trans w1c5
        have w2c6 : w2.cell? ⟨w.heap.size + 1 + 1, 1, none⟩ = some (.int .i64 p1) := (hb2.facts.1 _ 1 w1z2).trans w1c6
        have w2z2 : w.heap.size + 1 + 1 < w2.heap.size := hb2.facts.2.2 _ w1z2
        have Ew2 := Ew1.trans hb2
        clear hb2 Ew1 w1c0 w1c1 w1c2 w1c3 w1c4 w1c5 w1c6 w1z0 w1z1 w1z2
        go_wp2_with (first | (go_at_call 15; refine (within_any _ _ _ _).mono ?_; rintro e w' ⟨rfl, rfl⟩))
        have Hw2 := hide (And.intro w2c0 (And.intro w2c1 (And.intro w2c2 (And.intro w2c3 (And.intro w2c4 (And.intro w2c5 (And.intro w2c6 (And.intro w2z0 (And.intro w2z1 (And.intro w2z2 Ew2))))))))))
        clear w2c0 w2c1 w2c2 w2c3 w2c4 w2c5 w2c6 w2z0 w2z1 w2z2 Ew2
        go_loopw [7, 28] (fun n i wr => ∃ k : Nat, k ≤ l.length ∧ i = .int .i64 k ∧ n = .int .i64 (countTo l (a0, a1) (p0, p1) k) ∧ Ext w2 wr) (fun _ i _ => l.length - (intOf i).toNat)
        case atStart => exact ⟨0, Nat.zero_le _, rfl, rfl, Ext.refl _⟩
        case round =>
          obtain ⟨k, hk, rfl, rfl, hE⟩ := hrel
          have hle := countTo_le l (a0, a1) (p0, p1) k
          obtain ⟨w2c0, w2c1, w2c2, w2c3, w2c4, w2c5, w2c6, w2z0, w2z1, w2z2, Ew2⟩ := Hw2.out
          have wrc0 : wr.cell? ⟨w.heap.size, 0, none⟩ = some (.int .i64 W) := (hE.facts.1 _ 0 w2z0).trans w2c0
          have wrc1 : wr.cell? ⟨w.heap.size, 1, none⟩ = some (.int .i64 H) := (hE.facts.1 _ 1 w2z0).trans w2c1
          have wrc2 : wr.cell? ⟨w.heap.size, 2, none⟩ = some (.slice A l.length c) := (hE.facts.1 _ 2 w2z0).trans w2c2
          have wrz0 : w.heap.size < wr.heap.size := hE.facts.2.2 _ w2z0
          have wrc3 : wr.cell? ⟨w.heap.size + 1, 0, none⟩ = some (.int .i64 a0) := (hE.facts.1 _ 0 w2z1).trans w2c3
          have wrc4 : wr.cell? ⟨w.heap.size + 1, 1, none⟩ = some (.int .i64 a1) := (hE.facts.1 _ 1 w2z1).trans w2c4
          have wrz1 : w.heap.size + 1 < wr.heap.size := hE.facts.2.2 _ w2z1
          have wrc5 : wr.cell? ⟨w.heap.size + 1 + 1, 0, none⟩ = some (.int .i64 p0) := (hE.facts.1 _ 0 w2z2).trans w2c5
          have wrc6 : wr.cell? ⟨w.heap.size + 1 + 1, 1, none⟩ = some (.int .i64 p1) := (hE.facts.1 _ 1 w2z2).trans w2c6
          have wrz2 : w.heap.size + 1 + 1 < wr.heap.size := hE.facts.2.2 _ w2z2
          clear w2c0 w2c1 w2c2 w2c3 w2c4 w2c5 w2c6 w2z0 w2z1 w2z2
          by_cases hlt : k < l.length
          · have hs := spot_small h1 hlt
            obtain ⟨b, off, rfl, hb, e0, e1⟩ := R2.at_ (HR.out.ext (Ew2.trans hE)) hlt
            by_cases hv : lies l[k] (a0, a1) (p0, p1) = true
            · by_cases hm : l[k] ∈ l.take k
              · go_wp2_with fail
                obtain ⟨w3, hw3⟩ : ∃ w3, w3 = wr.alloc (Obj.cells #[Value.int IntKind.i64 l[k].1, Value.int IntKind.i64 l[k].2] 32) := ⟨_, rfl⟩
                rw [← hw3]
                have cc : w3.cell? ⟨w.heap.size, 0, none⟩ = some (.int .i64 W) ∧ w3.cell? ⟨w.heap.size, 1, none⟩ = some (.int .i64 H) ∧ w3.cell? ⟨w.heap.size, 2, none⟩ = some (.slice (some ⟨b, off, none⟩) l.length c) ∧ w3.cell? ⟨w.heap.size + 1, 0, none⟩ = some (.int .i64 a0) ∧ w3.cell? ⟨w.heap.size + 1, 1, none⟩ = some (.int .i64 a1) ∧ w3.cell? ⟨w.heap.size + 1 + 1, 0, none⟩ = some (.int .i64 p0) ∧ w3.cell? ⟨w.heap.size + 1 + 1, 1, none⟩ = some (.int .i64 p1) ∧ w3.cell? ⟨wr.heap.size, 0, none⟩ = some (.int .i64 l[k].1) ∧ w3.cell? ⟨wr.heap.size, 1, none⟩ = some (.int .i64 l[k].2) := by rw [hw3]; simp [go_sem, *]
                obtain ⟨w3c0, w3c1, w3c2, w3c3, w3c4, w3c5, w3c6, w3c7, w3c8⟩ := cc
                have w3z0 : w.heap.size < w3.heap.size := by rw [hw3]; simp; try omega
                have w3z1 : w.heap.size + 1 < w3.heap.size := by rw [hw3]; simp; try omega
                have w3z2 : w.heap.size + 1 + 1 < w3.heap.size := by rw [hw3]; simp; try omega
                have w3z3 : wr.heap.size < w3.heap.size := by rw [hw3]; simp; try omega
                have Ew3 : Ext wr w3 := by rw [hw3]; repeat (first | exact kE | exact Ext.refl _ | apply Ext.alloc | apply Ext.drewN | apply Ext.drew | apply Ext.set0 | apply Ext.set1 | apply Ext.set2 | apply Ext.set3 | (refine Ext.setk ?_ (by omega) _) | (apply Ext.snoc; assumption))
                clear hw3
                have q0 : (0 : Int) ≤ k := by omega
                have q1 : (k : Int) ≤ c := by omega
                go_region_held3 (fun w' => (∀ (q o : Nat), q < w3.heap.size → w'.cell? ⟨q, o, none⟩ = w3.cell? ⟨q, o, none⟩) ∧ Ext w3 w') ((apply ExtS; repeat (first | exact kE | exact Ext.refl _ | apply Ext.alloc | apply Ext.drewN | apply Ext.drew | apply Ext.set0 | apply Ext.set1 | apply Ext.set2 | apply Ext.set3 | (refine Ext.setk ?_ (by omega) _) | (apply Ext.snoc; assumption)))) ((first | (go_at_call 16; refine (liesIn_any _ _ _ _ _ _ _ (by omega) (by omega)).mono ?_; rintro e w5 ⟨rfl, hb5⟩)  |  (go_at_call 17; refine (ContainsTake_any l _ k _ _ _ _ hl hk (HR.out.ext (by repeat (first | exact kE | exact Ext.refl _ | apply Ext.alloc | apply Ext.drewN | apply Ext.drew | apply Ext.set0 | apply Ext.set1 | apply Ext.set2 | apply Ext.set3 | (refine Ext.setk ?_ (by omega) _) | (apply Ext.snoc; assumption))))).mono ?_; rintro e w6 ⟨rfl, hb6⟩)))
                go_wp2
                go_roundw
                case rel => exact ⟨k + 1, by omega, by go_num, by rw [countTo_seen hlt hm]; try go_num, by repeat (first | exact kE | exact Ext.refl _ | apply Ext.alloc | apply Ext.drewN | apply Ext.drew | apply Ext.set0 | apply Ext.set1 | apply Ext.set2 | apply Ext.set3 | (refine Ext.setk ?_ (by omega) _) | (apply Ext.snoc; assumption))⟩
                case measure => simp [intOf]; omega
              · go_wp2_with fail
                obtain ⟨w3, hw3⟩ : ∃ w3, w3 = wr.alloc (Obj.cells #[Value.int IntKind.i64 l[k].1, Value.int IntKind.i64 l[k].2] 32) := ⟨_, rfl⟩
                rw [← hw3]
                have cc : w3.cell? ⟨w.heap.size, 0, none⟩ = some (.int .i64 W) ∧ w3.cell? ⟨w.heap.size, 1, none⟩ = some (.int .i64 H) ∧ w3.cell? ⟨w.heap.size, 2, none⟩ = some (.slice (some ⟨b, off, none⟩) l.length c) ∧ w3.cell? ⟨w.heap.size + 1, 0, none⟩ = some (.int .i64 a0) ∧ w3.cell? ⟨w.heap.size + 1, 1, none⟩ = some (.int .i64 a1) ∧ w3.cell? ⟨w.heap.size + 1 + 1, 0, none⟩ = some (.int .i64 p0) ∧ w3.cell? ⟨w.heap.size + 1 + 1, 1, none⟩ = some (.int .i64 p1) ∧ w3.cell? ⟨wr.heap.size, 0, none⟩ = some (.int .i64 l[k].1) ∧ w3.cell? ⟨wr.heap.size, 1, none⟩ = some (.int .i64 l[k].2) := by rw [hw3]; simp [go_sem, *]
                obtain ⟨w3c0, w3c1, w3c2, w3c3, w3c4, w3c5, w3c6, w3c7, w3c8⟩ := cc
                have w3z0 : w.heap.size < w3.heap.size := by rw [hw3]; simp; try omega
                have w3z1 : w.heap.size + 1 < w3.heap.size := by rw [hw3]; simp; try omega
                have w3z2 : w.heap.size + 1 + 1 < w3.heap.size := by rw [hw3]; simp; try omega
                have w3z3 : wr.heap.size < w3.heap.size := by rw [hw3]; simp; try omega
                have Ew3 : Ext wr w3 := by rw [hw3]; repeat (first | exact kE | exact Ext.refl _ | apply Ext.alloc | apply Ext.drewN | apply Ext.drew | apply Ext.set0 | apply Ext.set1 | apply Ext.set2 | apply Ext.set3 | (refine Ext.setk ?_ (by omega) _) | (apply Ext.snoc; assumption))
                clear hw3
                have q0 : (0 : Int) ≤ k := by omega
                have q1 : (k : Int) ≤ c := by omega
                go_region_held3 (fun w' => (∀ (q o : Nat), q < w3.heap.size → w'.cell? ⟨q, o, none⟩ = w3.cell? ⟨q, o, none⟩) ∧ Ext w3 w') ((apply ExtS; repeat (first | exact kE | exact Ext.refl _ | apply Ext.alloc | apply Ext.drewN | apply Ext.drew | apply Ext.set0 | apply Ext.set1 | apply Ext.set2 | apply Ext.set3 | (refine Ext.setk ?_ (by omega) _) | (apply Ext.snoc; assumption)))) ((first | (go_at_call 16; refine (liesIn_any _ _ _ _ _ _ _ (by omega) (by omega)).mono ?_; rintro e w5 ⟨rfl, hb5⟩)  |  (go_at_call 17; refine (ContainsTake_any l _ k _ _ _ _ hl hk (HR.out.ext (by repeat (first | exact kE | exact Ext.refl _ | apply Ext.alloc | apply Ext.drewN | apply Ext.drew | apply Ext.set0 | apply Ext.set1 | apply Ext.set2 | apply Ext.set3 | (refine Ext.setk ?_ (by omega) _) | (apply Ext.snoc; assumption))))).mono ?_; rintro e w6 ⟨rfl, hb6⟩)))
                go_wp2
                go_roundw
                case rel => exact ⟨k + 1, by omega, by go_num, by rw [countTo_hit hlt hv hm]; try go_num, by repeat (first | exact kE | exact Ext.refl _ | apply Ext.alloc | apply Ext.drewN | apply Ext.drew | apply Ext.set0 | apply Ext.set1 | apply Ext.set2 | apply Ext.set3 | (refine Ext.setk ?_ (by omega) _) | (apply Ext.snoc; assumption))⟩
                case measure => simp [intOf]; omega
            · have hv' : lies l[k] (a0, a1) (p0, p1) = false := by simpa using hv
              clear hv
              go_wp2_with fail
              obtain ⟨w3, hw3⟩ : ∃ w3, w3 = wr.alloc (Obj.cells #[Value.int IntKind.i64 l[k].1, Value.int IntKind.i64 l[k].2] 32) := ⟨_, rfl⟩
              rw [← hw3]
              have cc : w3.cell? ⟨w.heap.size, 0, none⟩ = some (.int .i64 W) ∧ w3.cell? ⟨w.heap.size, 1, none⟩ = some (.int .i64 H) ∧ w3.cell? ⟨w.heap.size, 2, none⟩ = some (.slice (some ⟨b, off, none⟩) l.length c) ∧ w3.cell? ⟨w.heap.size + 1, 0, none⟩ = some (.int .i64 a0) ∧ w3.cell? ⟨w.heap.size + 1, 1, none⟩ = some (.int .i64 a1) ∧ w3.cell? ⟨w.heap.size + 1 + 1, 0, none⟩ = some (.int .i64 p0) ∧ w3.cell? ⟨w.heap.size + 1 + 1, 1, none⟩ = some (.int .i64 p1) ∧ w3.cell? ⟨wr.heap.size, 0, none⟩ = some (.int .i64 l[k].1) ∧ w3.cell? ⟨wr.heap.size, 1, none⟩ = some (.int .i64 l[k].2) := by rw [hw3]; simp [go_sem, *]
              obtain ⟨w3c0, w3c1, w3c2, w3c3, w3c4, w3c5, w3c6, w3c7, w3c8⟩ := cc
              have w3z0 : w.heap.size < w3.heap.size := by rw [hw3]; simp; try omega
              have w3z1 : w.heap.size + 1 < w3.heap.size := by rw [hw3]; simp; try omega
              have w3z2 : w.heap.size + 1 + 1 < w3.heap.size := by rw [hw3]; simp; try omega
              have w3z3 : wr.heap.size < w3.heap.size := by rw [hw3]; simp; try omega
              have Ew3 : Ext wr w3 := by rw [hw3]; repeat (first | exact kE | exact Ext.refl _ | apply Ext.alloc | apply Ext.drewN | apply Ext.drew | apply Ext.set0 | apply Ext.set1 | apply Ext.set2 | apply Ext.set3 | (refine Ext.setk ?_ (by omega) _) | (apply Ext.snoc; assumption))
              clear hw3
              have q0 : (0 : Int) ≤ k := by omega
              have q1 : (k : Int) ≤ c := by omega
              apply wp_region_RL 13 50 (by kernel_rfl) (by kernel_rfl) (by kernel_rfl) (by kernel_rfl) (by kernel_rfl) (by kernel_rfl) rfl [fun v _ => v = _, fun v _ => v = _, fun v _ => v = _, fun v _ => v = _, fun v _ => v = _, fun v _ => v = _, fun v _ => v = _, fun v _ => v = _, fun v _ => v = _, fun v _ => v = _, fun v _ => v = _, fun v _ => v = _, fun v _ => v = _] rfl ⟨stab_eq _, stab_eq _, stab_eq _, stab_eq _, stab_eq _, stab_eq _, stab_eq _, stab_eq _, stab_eq _, stab_eq _, stab_eq _, stab_eq _, stab_eq _, trivial⟩ ?Xhop ?Xfin
              case Xhop =>
                intro a w' hE hA
                have hc := hE.facts.1
                have hz := hE.facts.2.2
                refine ⟨⟨⟨⟨⟨⟨⟨⟨⟨⟨⟨⟨⟨trivial, ?_⟩, ?_⟩, ?_⟩, ?_⟩, ?_⟩, ?_⟩, ?_⟩, ?_⟩, ?_⟩, ?_⟩, ?_⟩, ?_⟩, ?_⟩
                · intro hp
                  have s9 := hA 9 (by rfl)
                  simp [sl] at s9
                  clear hp
                  refine wpOp_of_list rfl rfl ?_
                  go_wp2_with (first | (go_at_call 16; refine (liesIn_any _ _ _ _ _ _ _ (by omega) (by omega)).mono ?_; rintro e w5 ⟨rfl, hb5⟩))
                  exact ⟨_, rfl, rfl, (by repeat (first | exact kE | exact Ext.refl _ | apply Ext.alloc | apply Ext.drewN | apply Ext.drew | apply Ext.set0 | apply Ext.set1 | apply Ext.set2 | apply Ext.set3 | (refine Ext.setk ?_ (by omega) _) | (apply Ext.snoc; assumption)))⟩
                · intro hp
                  have s4 := hA 4 (by rfl)
                  simp [sl] at s4
                  clear hp
                  refine wpOp_of_list rfl rfl ?_
                  go_wp2_with (first | (go_at_call 16; refine (liesIn_any _ _ _ _ _ _ _ (by omega) (by omega)).mono ?_; rintro e w5 ⟨rfl, hb5⟩))
                  exact ⟨_, rfl, rfl, (by repeat (first | exact kE | exact Ext.refl _ | apply Ext.alloc | apply Ext.drewN | apply Ext.drew | apply Ext.set0 | apply Ext.set1 | apply Ext.set2 | apply Ext.set3 | (refine Ext.setk ?_ (by omega) _) | (apply Ext.snoc; assumption)))⟩
                · intro hp
                  have s5 := hA 5 (by rfl)
                  simp [sl] at s5
                  clear hp
                  refine wpOp_of_list rfl rfl ?_
                  go_wp2_with (first | (go_at_call 16; refine (liesIn_any _ _ _ _ _ _ _ (by omega) (by omega)).mono ?_; rintro e w5 ⟨rfl, hb5⟩))
                  exact ⟨_, rfl, rfl, (by repeat (first | exact kE | exact Ext.refl _ | apply Ext.alloc | apply Ext.drewN | apply Ext.drew | apply Ext.set0 | apply Ext.set1 | apply Ext.set2 | apply Ext.set3 | (refine Ext.setk ?_ (by omega) _) | (apply Ext.snoc; assumption)))⟩
                · intro hp
                  have s33 := hp 0 (by rfl)
                  change a.tmps.getD 33 undef = _ at s33
                  simp at s33
                  have s34 := hp 1 (by rfl)
                  change a.tmps.getD 34 undef = _ at s34
                  simp at s34
                  have s35 := hp 2 (by rfl)
                  change a.tmps.getD 35 undef = _ at s35
                  simp at s35
                  clear hp
                  refine wpOp_of_list rfl rfl ?_
                  go_wp2_with (first | (go_at_call 16; refine (liesIn_any _ _ _ _ _ _ _ (by omega) (by omega)).mono ?_; rintro e w5 ⟨rfl, hb5⟩))
                  exact ⟨_, rfl, rfl, (by repeat (first | exact kE | exact Ext.refl _ | apply Ext.alloc | apply Ext.drewN | apply Ext.drew | apply Ext.set0 | apply Ext.set1 | apply Ext.set2 | apply Ext.set3 | (refine Ext.setk ?_ (by omega) _) | (apply Ext.snoc; assumption)))⟩
                · intro hp
                  have s36 := hp 3 (by rfl)
                  change a.tmps.getD 36 undef = _ at s36
                  simp at s36
                  clear hp
                  refine wpOp_of_list rfl rfl ?_
                  go_wp2_with (first | (go_at_call 16; refine (liesIn_any _ _ _ _ _ _ _ (by omega) (by omega)).mono ?_; rintro e w5 ⟨rfl, hb5⟩))
                  exact ⟨_, rfl, rfl, (by repeat (first | exact kE | exact Ext.refl _ | apply Ext.alloc | apply Ext.drewN | apply Ext.drew | apply Ext.set0 | apply Ext.set1 | apply Ext.set2 | apply Ext.set3 | (refine Ext.setk ?_ (by omega) _) | (apply Ext.snoc; assumption)))⟩
                · intro hp
                  have sg := hp 4 (by rfl)
                  exact wpOp_skipR rfl (wanted_no rfl (yielded_at rfl sg) rfl) rfl
                · intro hp
                  have sg := hp 4 (by rfl)
                  exact wpOp_skipR rfl (wanted_no rfl (yielded_at rfl sg) rfl) rfl
                · intro hp
                  have sg := hp 4 (by rfl)
                  exact wpOp_skipR rfl (wanted_no rfl (yielded_at rfl sg) rfl) rfl
                · intro hp
                  have sg := hp 4 (by rfl)
                  exact wpOp_skipR rfl (wanted_no rfl (yielded_at rfl sg) rfl) rfl
                · intro hp
                  have sg := hp 4 (by rfl)
                  exact wpOp_skipR rfl (wanted_no rfl (yielded_at rfl sg) rfl) rfl
                · intro hp
                  have sg := hp 4 (by rfl)
                  exact wpOp_skipR rfl (wanted_no rfl (yielded_at rfl sg) rfl) rfl
                · intro hp
                  have sg := hp 4 (by rfl)
                  exact wpOp_skipR rfl (wanted_no rfl (yielded_at rfl sg) rfl) rfl
                · intro hp
                  have s37 := hp 4 (by rfl)
                  change a.tmps.getD 37 undef = _ at s37
                  simp at s37
                  have s44 := hp 11 (by rfl)
                  change a.tmps.getD 44 undef = _ at s44
                  simp at s44
                  clear hp
                  refine wpOp_of_list rfl rfl ?_
                  go_wp2_with (first | (go_at_call 16; refine (liesIn_any _ _ _ _ _ _ _ (by omega) (by omega)).mono ?_; rintro e w5 ⟨rfl, hb5⟩))
                  exact ⟨_, rfl, rfl, (by repeat (first | exact kE | exact Ext.refl _ | apply Ext.alloc | apply Ext.drewN | apply Ext.drew | apply Ext.set0 | apply Ext.set1 | apply Ext.set2 | apply Ext.set3 | (refine Ext.setk ?_ (by omega) _) | (apply Ext.snoc; assumption)))⟩
              case Xfin =>
                intro X w' hE hp
                obtain ⟨⟨⟨⟨⟨⟨⟨⟨⟨⟨⟨⟨⟨_, h0⟩, h1⟩, h2⟩, h3⟩, h4⟩, h5⟩, h6⟩, h7⟩, h8⟩, h9⟩, h10⟩, h11⟩, h12⟩ := hp
                change X 0 = _ at h0
                change X 1 = _ at h1
                change X 2 = _ at h2
                change X 3 = _ at h3
                change X 4 = _ at h4
                change X 5 = _ at h5
                change X 6 = _ at h6
                change X 7 = _ at h7
                change X 8 = _ at h8
                change X 9 = _ at h9
                change X 10 = _ at h10
                change X 11 = _ at h11
                change X 12 = _ at h12
                simp only [List.drop_succ_cons, List.drop_nil]
                refine wpList_nil ?_
                go_simp
                go_wp2
                go_roundw
                case rel => exact ⟨k + 1, by omega, by go_num, by rw [countTo_out hlt hv']; try go_num, by repeat (first | exact kE | exact Ext.refl _ | apply Ext.alloc | apply Ext.drewN | apply Ext.drew | apply Ext.set0 | apply Ext.set1 | apply Ext.set2 | apply Ext.set3 | (refine Ext.setk ?_ (by omega) _) | (apply Ext.snoc; assumption))⟩
                case measure => simp [intOf]; omega
          · go_wp2
            go_ret
            obtain rfl : k = l.length := by omega
            exact ⟨ret_int (by simp [spots, countOk, h1, h2, h3]), by repeat (first | exact kE | exact Ext.refl _ | apply Ext.alloc | apply Ext.drewN | apply Ext.drew | apply Ext.set0 | apply Ext.set1 | apply Ext.set2 | apply Ext.set3 | (refine Ext.setk ?_ (by omega) _) | (apply Ext.snoc; assumption))⟩
      · go_enter Try.func9, Try.ntmps9
        go_wp2_with (first | (go_at_call 11; refine (FlawedOk_any W H l A c _ hl (Rds.ext HR.out (by repeat (first | exact kE | exact Ext.refl _ | apply Ext.alloc | apply Ext.drewN | apply Ext.drew | apply Ext.set0 | apply Ext.set1 | apply Ext.set2 | apply Ext.set3 | (refine Ext.setk ?_ (by omega) _) | (apply Ext.snoc; assumption))))).mono ?_; rintro e w2 ⟨rfl, hb2⟩; obtain ⟨hc2, hf2, _⟩ := hb2.facts; have hs2 := hb2.size; (try simp only [World.size_alloc] at hs2); have hz2_0 : w.heap.size < w2.heap.size := (by omega); have hz2_1 : w.heap.size + 1 < w2.heap.size := (by omega); have hz2_2 : w.heap.size + 1 + 1 < w2.heap.size := (by omega)) | (go_at_call 15; refine (within_any _ _ _ _).mono ?_; rintro e w' ⟨rfl, rfl⟩))
        go_ret
        exact ⟨ret_int (by simp [spots, countOk, h3]), by repeat (first | exact kE | exact Ext.refl _ | apply Ext.alloc | apply Ext.drewN | apply Ext.drew | apply Ext.set0 | apply Ext.set1 | apply Ext.set2 | apply Ext.set3 | (refine Ext.setk ?_ (by omega) _) | (apply Ext.snoc; assumption))⟩
    · go_enter Try.func9, Try.ntmps9
      go_wp2_with (first | (go_at_call 11; refine (FlawedOk_any W H l A c _ hl (Rds.ext HR.out (by repeat (first | exact kE | exact Ext.refl _ | apply Ext.alloc | apply Ext.drewN | apply Ext.drew | apply Ext.set0 | apply Ext.set1 | apply Ext.set2 | apply Ext.set3 | (refine Ext.setk ?_ (by omega) _) | (apply Ext.snoc; assumption))))).mono ?_; rintro e w2 ⟨rfl, hb2⟩; obtain ⟨hc2, hf2, _⟩ := hb2.facts; have hs2 := hb2.size; (try simp only [World.size_alloc] at hs2); have hz2_0 : w.heap.size < w2.heap.size := (by omega); have hz2_1 : w.heap.size + 1 < w2.heap.size := (by omega); have hz2_2 : w.heap.size + 1 + 1 < w2.heap.size := (by omega)) | (go_at_call 15; refine (within_any _ _ _ _).mono ?_; rintro e w' ⟨rfl, rfl⟩))
      go_ret
      exact ⟨ret_int (by simp [spots, countOk, h2]), by repeat (first | exact kE | exact Ext.refl _ | apply Ext.alloc | apply Ext.drewN | apply Ext.drew | apply Ext.set0 | apply Ext.set1 | apply Ext.set2 | apply Ext.set3 | (refine Ext.setk ?_ (by omega) _) | (apply Ext.snoc; assumption))⟩
  · go_enter Try.func9, Try.ntmps9
    go_wp2_with (first | (go_at_call 11; refine (FlawedOk_any W H l A c _ hl (Rds.ext HR.out (by repeat (first | exact kE | exact Ext.refl _ | apply Ext.alloc | apply Ext.drewN | apply Ext.drew | apply Ext.set0 | apply Ext.set1 | apply Ext.set2 | apply Ext.set3 | (refine Ext.setk ?_ (by omega) _) | (apply Ext.snoc; assumption))))).mono ?_; rintro e w2 ⟨rfl, hb2⟩; obtain ⟨hc2, hf2, _⟩ := hb2.facts; have hs2 := hb2.size; (try simp only [World.size_alloc] at hs2); have hz2_0 : w.heap.size < w2.heap.size := (by omega); have hz2_1 : w.heap.size + 1 < w2.heap.size := (by omega); have hz2_2 : w.heap.size + 1 + 1 < w2.heap.size := (by omega)) | (go_at_call 15; refine (within_any _ _ _ _).mono ?_; rintro e w' ⟨rfl, rfl⟩))
    go_ret
    exact ⟨ret_int (by simp [spots, countOk, h1]), by repeat (first | exact kE | exact Ext.refl _ | apply Ext.alloc | apply Ext.drewN | apply Ext.drew | apply Ext.set0 | apply Ext.set1 | apply Ext.set2 | apply Ext.set3 | (refine Ext.setk ?_ (by omega) _) | (apply Ext.snoc; assumption))⟩
end Go.Proofs.Ytgaeafjmofbkbaa
