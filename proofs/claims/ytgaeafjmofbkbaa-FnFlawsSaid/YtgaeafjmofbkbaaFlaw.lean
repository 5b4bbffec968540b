/- Walks of the chapter on flaws. No condition but that a list has at most 1048576 elements. -/
import Derived.Test.YtgaeafjmofbkbaaNodes
import Derived.Test.YtgaeafjmofbkbaaSheet
set_option linter.unusedSimpArgs false
set_option linter.unusedVariables false
namespace Go.Proofs.Ytgaeafjmofbkbaa
open Go.RowKit

def spotIn (W H : Int) (p : P2) : Bool := inR p.1 0 (W - 1) && inR p.2 0 (H - 1)
def flawedOk (W H : Int) (l : List P2) : Bool := sheetOk W H && decide (l.length ≤ 12) && l.all (spotIn W H)

theorem FlawedOk_any (W H : Int) (l : List P2) (A : Option Addr) (c : Nat) (w : World) (hl : l.length ≤ 1048576) (hr : R2 w A l) :
    Calls Try.prog 11 #[.agg #[.int .i64 W, .int .i64 H, .slice A l.length c]] w fun e w' => e = .returned (.bool (flawedOk W H l)) ∧ Ext w w' := by
  have HR := hide hr
  clear hr
  by_cases h1 : sheetOk W H = true
  · have B := sheetOk_true h1
    by_cases h2 : (12 : Int) < l.length
    · go_enter Try.func11, Try.ntmps11
      go_wp2_with (first | (go_at_call 14; refine (SheetOk_any _ _ _).mono ?_; rintro e w1 ⟨rfl, hb1⟩; obtain ⟨hc1, hf1, _⟩ := hb1.facts; have hs1 := hb1.size; (try simp only [World.size_alloc] at hs1); have hz1_0 : w.heap.size < w1.heap.size := (by omega)))
      go_ret
      exact ⟨ret_bool (by simp [flawedOk]; omega), by repeat (first | exact kE | exact Ext.refl _ | apply Ext.alloc | apply Ext.drewN | apply Ext.drew | apply Ext.set0 | apply Ext.set1 | apply Ext.set2 | apply Ext.set3 | (refine Ext.setk ?_ (by omega) _) | (apply Ext.snoc; assumption))⟩
    · go_enter Try.func11, Try.ntmps11
      go_wp2_with (first | (go_at_call 14; refine (SheetOk_any _ _ _).mono ?_; rintro e w1 ⟨rfl, hb1⟩; obtain ⟨hc1, hf1, _⟩ := hb1.facts; have hs1 := hb1.size; (try simp only [World.size_alloc] at hs1); have hz1_0 : w.heap.size < w1.heap.size := (by omega)))
      have d0 : w1.cell? ⟨w.heap.size, 0, none⟩ = some (.int .i64 W) := by go_simp
      have d1 : w1.cell? ⟨w.heap.size, 1, none⟩ = some (.int .i64 H) := by go_simp
      have D0 := hide d0
      have D1 := hide d1
      have hR1 := HR.out.ext (show Ext w w1 by repeat (first | exact kE | exact Ext.refl _ | apply Ext.alloc | apply Ext.drewN | apply Ext.drew | apply Ext.set0 | apply Ext.set1 | apply Ext.set2 | apply Ext.set3 | (refine Ext.setk ?_ (by omega) _) | (apply Ext.snoc; assumption)))
      have HR1 := hide hR1
      have HE1 := hide (show Ext w w1 by repeat (first | exact kE | exact Ext.refl _ | apply Ext.alloc | apply Ext.drewN | apply Ext.drew | apply Ext.set0 | apply Ext.set1 | apply Ext.set2 | apply Ext.set3 | (refine Ext.setk ?_ (by omega) _) | (apply Ext.snoc; assumption)))
      clear hc1 hf1 d0 d1 hR1 HR hb1
      go_loopw [18] (fun i wr => ∃ k : Nat, k ≤ l.length ∧ i = .int .i64 k ∧ Hid ((l.take k).all (spotIn W H) = true) ∧ Ext w1 wr) (fun i _ => l.length - (intOf i).toNat)
      case atStart => exact ⟨0, Nat.zero_le _, rfl, hide (by simp), Ext.refl _⟩
      case round =>
        obtain ⟨k, hk, rfl, hp, hE⟩ := hrel
        have c0 := (hE.facts.1 _ 0 hz1_0).trans D0.out
        have c1 := (hE.facts.1 _ 1 hz1_0).trans D1.out
        have zr := hE.facts.2.2 _ hz1_0
        by_cases hlt : k < l.length
        · obtain ⟨b, off, rfl, hb, e0, e1⟩ := R2.at_ (Rds.ext HR1.out hE) hlt
          go_wp2_with (first | (go_at_call 15; refine (within_any _ _ _ _).mono ?_; rintro e w' ⟨rfl, rfl⟩))
          all_goals first
            | (go_ret; exact ⟨ret_bool (by have hs : spotIn W H l[k] = false := (by (try simp only [Bool.not_eq_true'] at *); (try simp only [Bool.not_eq_false'] at *); (try simp only [Bool.not_eq_true] at *); simp [spotIn, *]); unfold flawedOk; rw [all_false_at l (spotIn W H) k hlt hs, Bool.and_false]), by have := HE1.out; repeat (first | exact kE | exact Ext.refl _ | apply Ext.alloc | apply Ext.drewN | apply Ext.drew | apply Ext.set0 | apply Ext.set1 | apply Ext.set2 | apply Ext.set3 | (refine Ext.setk ?_ (by omega) _) | (apply Ext.snoc; assumption))⟩)
            | (go_roundw; (case rel => exact ⟨k + 1, by omega, by go_num, hide (by rw [all_take_succ l _ k hlt, hp.out]; (try simp only [Bool.not_eq_true'] at *); (try simp only [Bool.not_eq_false'] at *); (try simp only [Bool.not_eq_true] at *); simp [spotIn, *]), by repeat (first | exact kE | exact Ext.refl _ | apply Ext.alloc | apply Ext.drewN | apply Ext.drew | apply Ext.set0 | apply Ext.set1 | apply Ext.set2 | apply Ext.set3 | (refine Ext.setk ?_ (by omega) _) | (apply Ext.snoc; assumption))⟩); (case measure => simp [intOf]; omega))
        · go_wp2
          go_ret
          exact ⟨ret_bool (by unfold flawedOk; rw [← all_of_take l _ k hlt, hp.out, h1, decide_eq_true (by omega)]; rfl), by have := HE1.out; repeat (first | exact kE | exact Ext.refl _ | apply Ext.alloc | apply Ext.drewN | apply Ext.drew | apply Ext.set0 | apply Ext.set1 | apply Ext.set2 | apply Ext.set3 | (refine Ext.setk ?_ (by omega) _) | (apply Ext.snoc; assumption))⟩
  · go_enter Try.func11, Try.ntmps11
    go_wp2_with (first | (go_at_call 14; refine (SheetOk_any _ _ _).mono ?_; rintro e w1 ⟨rfl, hb1⟩; obtain ⟨hc1, hf1, _⟩ := hb1.facts; have hs1 := hb1.size; (try simp only [World.size_alloc] at hs1); have hz1_0 : w.heap.size < w1.heap.size := (by omega)))
    go_ret
    exact ⟨ret_bool (by simp [flawedOk, h1]), by repeat (first | exact kE | exact Ext.refl _ | apply Ext.alloc | apply Ext.drewN | apply Ext.drew | apply Ext.set0 | apply Ext.set1 | apply Ext.set2 | apply Ext.set3 | (refine Ext.setk ?_ (by omega) _) | (apply Ext.snoc; assumption))⟩
end Go.Proofs.Ytgaeafjmofbkbaa
