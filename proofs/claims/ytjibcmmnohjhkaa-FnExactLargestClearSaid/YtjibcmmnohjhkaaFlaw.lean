/- Walks of the chapter on flaws. No condition but that a list has at most 1048576 elements. -/
import Derived.Test.YtjibcmmnohjhkaaNodes
import Derived.Test.YtjibcmmnohjhkaaSheet
namespace Go.Proofs.Ytjibcmmnohjhkaa
open Go.RowKit

def spotIn (W H : Int) (p : P2) : Bool := inR p.1 0 (W - 1) && inR p.2 0 (H - 1)
def flawedOk (W H : Int) (l : List P2) : Bool := sheetOk W H && decide (l.length ≤ 12) && l.all (spotIn W H)

theorem toFlawed_any (W H : Int) (l : List P2) (A : Option Addr) (c : Nat) (w : World) (hl : l.length ≤ 1048576) (hr : R2 w A l) :
    Calls Try.prog 18 #[.agg #[.int .i64 W, .int .i64 H, .slice A l.length c]] w fun e w' => ∃ g, e = .returned (.agg #[.int .i64 W, .int .i64 H, .slice (some ⟨g, 0, none⟩) l.length l.length]) ∧ R2 w' (some ⟨g, 0, none⟩) l ∧ Ext w w' := by
  have HR := hide hr
  clear hr
  go_enter Try.func18, Try.ntmps18
  go_wp2_with fail
  refine (toSheet_any _ _ _).mono ?_; rintro e w1 ⟨rfl, hb1⟩; obtain ⟨hc1, hf1, _⟩ := hb1.facts; have hs1 := hb1.size; (try simp only [World.size_alloc] at hs1); have hz1_0 : w.heap.size < w1.heap.size := (by omega); have hz1_1 : w.heap.size + 1 < w1.heap.size := (by omega); have hz1_2 : w.heap.size + 1 + 1 < w1.heap.size := (by omega)
  go_wp2_with fail
  refine (toNodeS_any l A c _ hl (Rds.ext HR.out (by repeat (first | exact Ext.refl _ | apply Ext.alloc | apply Ext.drewN | apply Ext.drew | apply Ext.set0 | apply Ext.set1 | apply Ext.set2 | apply Ext.set3 | (refine Ext.setk ?_ (by omega) _) | (apply Ext.snoc; assumption))))).mono ?_; rintro e w2 ⟨g, rfl, ho2, hb2⟩; have HO := hide ho2; clear ho2; obtain ⟨hc2, hf2, _⟩ := hb2.facts; have hs2 := hb2.size; (try simp only [World.size_alloc] at hs2)
  go_wp2_with fail
  refine bodyPost_ret (v := .agg #[.int .i64 W, .int .i64 H, .slice (some ⟨g, 0, none⟩) l.length l.length]) (by simp only [results, Try.results18]; go_simp) rfl ⟨g, rfl, ?_, by repeat (first | exact Ext.refl _ | apply Ext.alloc | apply Ext.drewN | apply Ext.drew | apply Ext.set0 | apply Ext.set1 | apply Ext.set2 | apply Ext.set3 | (refine Ext.setk ?_ (by omega) _) | (apply Ext.snoc; assumption))⟩
  have hg := (HO.out.lt g rfl).1
  simp only [World.size_setCell] at hg
  repeat (refine Rds.setk ?_ (by omega) _)
  exact Rds.of_own HO.out
theorem FlawedOk_any (W H : Int) (l : List P2) (A : Option Addr) (c : Nat) (w : World) (hl : l.length ≤ 1048576) (hr : R2 w A l) :
    Calls Try.prog 19 #[.agg #[.int .i64 W, .int .i64 H, .slice A l.length c]] w fun e w' => e = .returned (.bool (flawedOk W H l)) ∧ Ext w w' := by
  have HR := hide hr
  clear hr
  by_cases h1 : sheetOk W H = true
  · have B := sheetOk_true h1
    by_cases h2 : (12 : Int) < l.length
    · go_enter Try.func19, Try.ntmps19
      go_wp2_with (first | (go_at_call 46; refine (SheetOk_any _ _ _).mono ?_; rintro e w1 ⟨rfl, hb1⟩; obtain ⟨hc1, hf1, _⟩ := hb1.facts; have hs1 := hb1.size; (try simp only [World.size_alloc] at hs1); have hz1_0 : w.heap.size < w1.heap.size := (by omega)))
      go_ret
      exact ⟨ret_bool (by simp [flawedOk]; omega), by repeat (first | exact Ext.refl _ | apply Ext.alloc | apply Ext.drewN | apply Ext.drew | apply Ext.set0 | apply Ext.set1 | apply Ext.set2 | apply Ext.set3 | (refine Ext.setk ?_ (by omega) _) | (apply Ext.snoc; assumption))⟩
    · go_enter Try.func19, Try.ntmps19
      go_wp2_with (first | (go_at_call 46; refine (SheetOk_any _ _ _).mono ?_; rintro e w1 ⟨rfl, hb1⟩; obtain ⟨hc1, hf1, _⟩ := hb1.facts; have hs1 := hb1.size; (try simp only [World.size_alloc] at hs1); have hz1_0 : w.heap.size < w1.heap.size := (by omega)))
      have d0 : w1.cell? ⟨w.heap.size, 0, none⟩ = some (.int .i64 W) := by go_simp
      have d1 : w1.cell? ⟨w.heap.size, 1, none⟩ = some (.int .i64 H) := by go_simp
      have D0 := hide d0
      have D1 := hide d1
      have hR1 := HR.out.ext (show Ext w w1 by repeat (first | exact Ext.refl _ | apply Ext.alloc | apply Ext.drewN | apply Ext.drew | apply Ext.set0 | apply Ext.set1 | apply Ext.set2 | apply Ext.set3 | (refine Ext.setk ?_ (by omega) _) | (apply Ext.snoc; assumption)))
      have HR1 := hide hR1
      have HE1 := hide (show Ext w w1 by repeat (first | exact Ext.refl _ | apply Ext.alloc | apply Ext.drewN | apply Ext.drew | apply Ext.set0 | apply Ext.set1 | apply Ext.set2 | apply Ext.set3 | (refine Ext.setk ?_ (by omega) _) | (apply Ext.snoc; assumption)))
      clear hc1 hf1 d0 d1 hR1 HR hb1
      go_loopw [18] (fun i wr => ∃ k : Nat, k ≤ l.length ∧ i = .int .i64 k ∧ Hid ((l.take k).all (spotIn W H) = true) ∧ Ext w1 wr) (fun i _ => l.length - (intOf i).toNat)
      case atStart => exact ⟨0, Nat.zero_le _, rfl, hide (by simp), Ext.refl _⟩
      case round =>
        obtain ⟨k, hk, rfl, hp, hE⟩ := hrel
        have c0 := (hE.facts.1 _ 0 hz1_0).trans D0.out
        have c1 := (hE.facts.1 _ 1 hz1_0).trans D1.out
        have zr := hE.facts.2.2 _ hz1_0
        by_cases hlt : k < l.length
        · obtain ⟨b, off, rfl, hb, e0, e1⟩ := R2.at_ (Rds.ext HR1.out hE) hlt
          go_wp2_with (first | (go_at_call 52; refine (within_any _ _ _ _).mono ?_; rintro e w' ⟨rfl, rfl⟩))
          all_goals first
            | (go_ret; exact ⟨ret_bool (by have hs : spotIn W H l[k] = false := (by (try simp only [Bool.not_eq_true'] at *); (try simp only [Bool.not_eq_false'] at *); (try simp only [Bool.not_eq_true] at *); simp [spotIn, *]); unfold flawedOk; rw [all_false_at l (spotIn W H) k hlt hs, Bool.and_false]), by have := HE1.out; repeat (first | exact Ext.refl _ | apply Ext.alloc | apply Ext.drewN | apply Ext.drew | apply Ext.set0 | apply Ext.set1 | apply Ext.set2 | apply Ext.set3 | (refine Ext.setk ?_ (by omega) _) | (apply Ext.snoc; assumption))⟩)
            | (go_roundw; (case rel => exact ⟨k + 1, by omega, by go_num, hide (by rw [all_take_succ l _ k hlt, hp.out]; (try simp only [Bool.not_eq_true'] at *); (try simp only [Bool.not_eq_false'] at *); (try simp only [Bool.not_eq_true] at *); simp [spotIn, *]), by repeat (first | exact Ext.refl _ | apply Ext.alloc | apply Ext.drewN | apply Ext.drew | apply Ext.set0 | apply Ext.set1 | apply Ext.set2 | apply Ext.set3 | (refine Ext.setk ?_ (by omega) _) | (apply Ext.snoc; assumption))⟩); (case measure => simp [intOf]; omega))
        · go_wp2
          go_ret
          exact ⟨ret_bool (by unfold flawedOk; rw [← all_of_take l _ k hlt, hp.out, h1, decide_eq_true (by omega)]; rfl), by have := HE1.out; repeat (first | exact Ext.refl _ | apply Ext.alloc | apply Ext.drewN | apply Ext.drew | apply Ext.set0 | apply Ext.set1 | apply Ext.set2 | apply Ext.set3 | (refine Ext.setk ?_ (by omega) _) | (apply Ext.snoc; assumption))⟩
  · go_enter Try.func19, Try.ntmps19
    go_wp2_with (first | (go_at_call 46; refine (SheetOk_any _ _ _).mono ?_; rintro e w1 ⟨rfl, hb1⟩; obtain ⟨hc1, hf1, _⟩ := hb1.facts; have hs1 := hb1.size; (try simp only [World.size_alloc] at hs1); have hz1_0 : w.heap.size < w1.heap.size := (by omega)))
    go_ret
    exact ⟨ret_bool (by simp [flawedOk, h1]), by repeat (first | exact Ext.refl _ | apply Ext.alloc | apply Ext.drewN | apply Ext.drew | apply Ext.set0 | apply Ext.set1 | apply Ext.set2 | apply Ext.set3 | (refine Ext.setk ?_ (by omega) _) | (apply Ext.snoc; assumption))⟩
set_option maxHeartbeats 1000000 in
theorem sFlawedOk_any (W H : Int) (l : List P2) (A : Option Addr) (c : Nat) (w : World) (hl : l.length ≤ 1048576) (hr : R2 w A l) :
    Calls Try.prog 17 #[.agg #[.int .i64 W, .int .i64 H, .slice A l.length c]] w fun e w' => e = .returned (.bool (flawedOk W H l)) ∧ Ext w w' := by
  have HR := hide hr
  clear hr
  have hb : ∀ h1 : ¬ sheetOk W H = true, flawedOk W H l = false := fun h1 => by simp [flawedOk, h1]
  have HB := hide hb
  clear hb
  go_enter Try.func17, Try.ntmps17
  go_wp2_with fail
  obtain ⟨w1, hw1⟩ : ∃ w1, w1 = w.alloc (Obj.cells #[Value.int IntKind.i64 W, Value.int IntKind.i64 H, Value.slice A l.length c] 35) := ⟨_, rfl⟩
  rw [← hw1]
  have D1 : w1.cell? ⟨w.heap.size, 0, none⟩ = some (.int .i64 W) ∧ w1.cell? ⟨w.heap.size, 1, none⟩ = some (.int .i64 H) ∧ w1.cell? ⟨w.heap.size, 2, none⟩ = some (.slice A l.length c) ∧ w.heap.size < w1.heap.size := by rw [hw1]; simp [go_sem]
  have D2 : Ext w w1 := by rw [hw1]; repeat (first | exact Ext.refl _ | apply Ext.alloc | apply Ext.drewN | apply Ext.drew | apply Ext.set0 | apply Ext.set1 | apply Ext.set2 | apply Ext.set3 | (refine Ext.setk ?_ (by omega) _) | (apply Ext.snoc; assumption))
  have D := And.intro D1.1 (And.intro D1.2.1 (And.intro D1.2.2.1 (And.intro D1.2.2.2 D2)))
  clear D1 D2
  have HD := hide D
  clear D hw1
  go_loopw [3] (fun i wr => ∃ k : Nat, k ≤ l.length ∧ i = .int .i64 k ∧ Hid (sheetOk W H = true → (l.take k).all (spotIn W H) = true) ∧ Ext w1 wr) (fun i _ => l.length - (intOf i).toNat)
  case atStart => exact ⟨0, Nat.zero_le _, rfl, hide (by simp), Ext.refl _⟩
  case round =>
    obtain ⟨k, hk, rfl, hp, hE⟩ := hrel
    obtain ⟨D0, D1, D2, hz, hE1⟩ := HD.out
    have c0 := (hE.facts.1 _ 0 hz).trans D0
    have c1 := (hE.facts.1 _ 1 hz).trans D1
    have c2 := (hE.facts.1 _ 2 hz).trans D2
    have zr := hE.facts.2.2 _ hz
    clear D0 D1 D2
    by_cases hlt : k < l.length
    · obtain ⟨b, off, rfl, hb, e0, e1⟩ := R2.at_ (HR.out.ext (hE1.trans hE)) hlt
      by_cases hv0 : inR l[k].1 0 (wrap64 (W - 1)) = true
      · by_cases hv1 : inR l[k].2 0 (wrap64 (H - 1)) = true
        · go_wp2_with fail
          go_quiet ((go_at_call 49; first | exact quiet_left (l01In_any _ _ _ _) | exact quiet_add_left (l01In_any _ _ _ _)))
          go_wp2
          go_roundw
          case rel =>
            refine ⟨k + 1, by omega, by go_num, hide (fun h1 => ?_), by repeat (first | exact Ext.refl _ | apply Ext.alloc | apply Ext.drewN | apply Ext.drew | apply Ext.set0 | apply Ext.set1 | apply Ext.set2 | apply Ext.set3 | (refine Ext.setk ?_ (by omega) _) | (apply Ext.snoc; assumption))⟩
            have B := sheetOk_true h1
            rw [show wrap64 (W - 1) = W - 1 from by unfold wrap64; omega] at hv0
            rw [show wrap64 (H - 1) = H - 1 from by unfold wrap64; omega] at hv1
            rw [all_take_succ l _ k hlt, hp.out h1]
            simp [spotIn, hv0, hv1]
          case measure => simp [intOf]; omega
        · have hv1' : inR l[k].2 0 (wrap64 (H - 1)) = false := by simpa using hv1
          go_wp2_with fail
          go_quiet ((go_at_call 49; first | exact quiet_left (l01In_any _ _ _ _) | exact quiet_add_left (l01In_any _ _ _ _)))
          go_wp2
          go_ret
          exact ⟨ret_bool (by
            by_cases h1 : sheetOk W H = true
            · have B := sheetOk_true h1
              rw [show wrap64 (H - 1) = H - 1 from by unfold wrap64; omega] at hv1
              unfold flawedOk
              rw [all_false_at l (spotIn W H) k hlt (by simp [spotIn, hv1]), Bool.and_false]
            · exact (HB.out h1).symm), by repeat (first | exact Ext.refl _ | apply Ext.alloc | apply Ext.drewN | apply Ext.drew | apply Ext.set0 | apply Ext.set1 | apply Ext.set2 | apply Ext.set3 | (refine Ext.setk ?_ (by omega) _) | (apply Ext.snoc; assumption))⟩
      · have hv0' : inR l[k].1 0 (wrap64 (W - 1)) = false := by simpa using hv0
        go_wp2_with fail
        go_quiet ((go_at_call 49; first | exact quiet_left (l01In_any _ _ _ _) | exact quiet_add_left (l01In_any _ _ _ _)))
        go_wp2
        go_ret
        exact ⟨ret_bool (by
          by_cases h1 : sheetOk W H = true
          · have B := sheetOk_true h1
            rw [show wrap64 (W - 1) = W - 1 from by unfold wrap64; omega] at hv0
            unfold flawedOk
            rw [all_false_at l (spotIn W H) k hlt (by simp [spotIn, hv0]), Bool.and_false]
          · exact (HB.out h1).symm), by repeat (first | exact Ext.refl _ | apply Ext.alloc | apply Ext.drewN | apply Ext.drew | apply Ext.set0 | apply Ext.set1 | apply Ext.set2 | apply Ext.set3 | (refine Ext.setk ?_ (by omega) _) | (apply Ext.snoc; assumption))⟩
    · go_wp2_with (first | (go_at_call 50; refine (sSheetOk_any _ _ _).mono ?_; rintro e w5 ⟨rfl, hb5⟩; obtain ⟨hc5, hf5, _⟩ := hb5.facts; have hs5 := hb5.size; (try simp only [World.size_alloc] at hs5); have hz5_0 : w.heap.size < w5.heap.size := (by omega)))
      · have h : sheetOk W H = true := by assumption
        go_ret
        exact ⟨ret_bool (by unfold flawedOk; rw [h, ← all_of_take l _ k hlt, hp.out h, Bool.eq_iff_iff]; simp; omega), by repeat (first | exact Ext.refl _ | apply Ext.alloc | apply Ext.drewN | apply Ext.drew | apply Ext.set0 | apply Ext.set1 | apply Ext.set2 | apply Ext.set3 | (refine Ext.setk ?_ (by omega) _) | (apply Ext.snoc; assumption))⟩
      · have h : ¬ sheetOk W H = true := by assumption
        go_ret
        exact ⟨ret_bool (HB.out h).symm, by repeat (first | exact Ext.refl _ | apply Ext.alloc | apply Ext.drewN | apply Ext.drew | apply Ext.set0 | apply Ext.set1 | apply Ext.set2 | apply Ext.set3 | (refine Ext.setk ?_ (by omega) _) | (apply Ext.snoc; assumption))⟩
end Go.Proofs.Ytjibcmmnohjhkaa
