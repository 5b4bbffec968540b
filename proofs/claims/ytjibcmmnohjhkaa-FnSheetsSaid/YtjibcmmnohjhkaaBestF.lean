/- Walks of BestValue and WasteOf. No condition but that a list has at most 1048576 elements. -/
import Derived.Test.YtjibcmmnohjhkaaSBest
import Derived.Test.YtjibcmmnohjhkaaSheetS
import Derived.Test.YtjibcmmnohjhkaaRegR
import Derived.Deep.AppendLies
set_option linter.unusedSimpArgs false
set_option linter.unusedVariables false
namespace Go.Proofs.Ytjibcmmnohjhkaa
open Go.RowKit

def sheetsOkB (W H : Int) (l : List P2) : Bool := sheetOk W H && decide (l.length ≤ 6) && l.all fun p => sheetOk p.1 p.2
def bestVal (W H : Int) (l : List P2) (vs : List Int) : Int := if sheetsOkB W H l && decide (vs.length = l.length) && vs.all (inR · 0 1000) then bv l vs W.toNat H.toNat else -1
def areas (l : List P2) : List Int := l.map fun p => p.1 * p.2
def wasteVal (W H : Int) (l : List P2) : Int := if sheetsOkB W H l then W * H - bv l (areas l) W.toNat H.toNat else -1
theorem sheetsOkB_true {W H : Int} {l : List P2} (h : sheetsOkB W H l = true) : sheetOk W H = true ∧ l.length ≤ 6 ∧ ∀ p ∈ l, sheetOk p.1 p.2 = true := by
  simp only [sheetsOkB, Bool.and_eq_true, decide_eq_true_eq, List.all_eq_true] at h
  exact ⟨h.1.1, h.1.2, h.2⟩
theorem good_values {W H : Int} {l : List P2} {vs : List Int} (h : sheetsOkB W H l = true) (hl : vs.length = l.length) (hv : vs.all (inR · 0 1000) = true) : goodPieces l vs 1000 :=
  ⟨hl.symm, fun p hp => by have := sheetOk_true ((sheetsOkB_true h).2.2 p hp); omega, fun v hm => by have := inR_true (List.all_eq_true.1 hv v hm); omega⟩
theorem good_areas {W H : Int} {l : List P2} (h : sheetsOkB W H l = true) : goodPieces l (areas l) 1600 :=
  ⟨by simp [areas], fun p hp => by have := sheetOk_true ((sheetsOkB_true h).2.2 p hp); omega, fun v hm => by
    obtain ⟨p, hp, rfl⟩ := List.mem_map.1 hm
    have B := sheetOk_true ((sheetsOkB_true h).2.2 p hp)
    have h1 := Int.mul_nonneg (show 0 ≤ p.1 by omega) (show 0 ≤ p.2 by omega)
    have h2 : p.1 * p.2 ≤ 40 * 40 := Int.mul_le_mul (by omega) (by omega) (by omega) (by omega)
    omega⟩
theorem areas_succ (l : List P2) (k : Nat) (h : k < l.length) : areas (l.take (k + 1)) = areas (l.take k) ++ [l[k].1 * l[k].2] := by
  unfold areas
  rw [List.take_succ_eq_append_getElem h]; simp only [List.map_append, List.map_cons, List.map_nil]
theorem sheet_at {l : List P2} (h : ∀ p ∈ l, sheetOk p.1 p.2 = true) {k : Nat} (hk : k < l.length) : 1 ≤ l[k].1 ∧ l[k].1 ≤ 40 ∧ 1 ≤ l[k].2 ∧ l[k].2 ≤ 40 := by
  have := sheetOk_true (h l[k] (List.getElem_mem hk))
  omega
theorem sheetsOk_any (W H : Int) (l : List P2) (A : Option Addr) (c : Nat) (w : World) (hl : l.length ≤ 1048576) (hr : R2 w A l) :
    Calls Try.prog 62 #[.agg #[.int .i64 W, .int .i64 H], .slice A l.length c] w fun e w' => e = .returned (.bool (sheetsOkB W H l)) ∧ Ext w w' := by
  have HR := hide hr
  clear hr
  
  go_enter Try.func62, Try.ntmps62
  go_wp2_with fail
  obtain ⟨w0, hw⟩ : ∃ w1, w1 = (w.alloc (Obj.cells #[Value.int IntKind.i64 W, Value.int IntKind.i64 H] 25)) := ⟨_, rfl⟩; rw [← hw]; have kT : Tr [(w.heap.size, [.int .i64 W, .int .i64 H])] w w0 := (by rw [hw]; exact ⟨by (first | (simp [Bx, CellsAt, go_sem, *]; done) | (simp [Bx, CellsAt, go_sem, *]; omega)), by (repeat (first | exact kE | exact Ext.refl _ | apply Ext.alloc | apply Ext.drewN | apply Ext.drew | apply Ext.set0 | apply Ext.set1 | apply Ext.set2 | apply Ext.set3 | (refine Ext.setk ?_ (by omega) _) | (apply Ext.snoc; assumption)))⟩); have HT := hide kT; clear hw kT; have kT := HT.out; simp only [Tr, Bx, CellsAt, Nat.reduceAdd, Nat.zero_add, and_true] at kT; obtain ⟨⟨kz0, kf0, kc0_0, kc0_1⟩, kE⟩ := kT
  refine (SheetOk_any _ _ _).mono ?_; rintro e w1 ⟨rfl, hb⟩; have HT := hide (HT.out.ext hb); have Hw1 := hide hb; clear hb; clear kz0 kf0 kc0_0 kc0_1 kE; have kT := HT.out; simp only [Tr, Bx, CellsAt, Nat.reduceAdd, Nat.zero_add, and_true] at kT; obtain ⟨⟨kz0, kf0, kc0_0, kc0_1⟩, kE⟩ := kT
  by_cases h1 : sheetOk W H = true
  · by_cases h2 : (6 : Int) < l.length
    · go_wp2_with fail
      go_ret
      exact ⟨ret_bool (by have : ¬ l.length ≤ 6 := by omega
                          simp [sheetsOkB, this]), by repeat (first | exact kE | exact Ext.refl _ | apply Ext.alloc | apply Ext.drewN | apply Ext.drew | apply Ext.set0 | apply Ext.set1 | apply Ext.set2 | apply Ext.set3 | (refine Ext.setk ?_ (by omega) _) | (apply Ext.snoc; assumption))⟩
    · go_wp2_with fail
      clear kz0 kf0 kc0_0 kc0_1 kE
      go_loopw [17] (fun i wr => ∃ k : Nat, k ≤ l.length ∧ i = .int .i64 k ∧ Hid ((l.take k).all (fun p => sheetOk p.1 p.2) = true) ∧ Ext w1 wr) (fun i _ => l.length - (intOf i).toNat)
      case atStart => exact ⟨0, Nat.zero_le _, rfl, hide (by simp), Ext.refl _⟩
      case round =>
        obtain ⟨k, hk, rfl, hp, hE⟩ := hrel
        have HQ := hide hE
        have HT := hide (HT.out.ext hE); clear hE; have kT := HT.out; simp only [Tr, Bx, CellsAt, Nat.reduceAdd, Nat.zero_add, and_true] at kT; obtain ⟨⟨kz0, kf0, kc0_0, kc0_1⟩, kE⟩ := kT
        by_cases hlt : k < l.length
        · obtain ⟨b, off, rfl, hb, e0, e1⟩ := R2.at_ (HR.out.ext kE) hlt
          have HN := hide (all_take_succ l (fun p => sheetOk p.1 p.2) k hlt)
          go_wp2_with (first | (go_at_call 46; refine (SheetOk_any _ _ _).mono ?_; rintro e w5 ⟨rfl, hb5⟩))
          · have hv : sheetOk l[k].1 l[k].2 = false := by (first | assumption | ((try simp only [Bool.not_eq_true'] at *); (try simp only [Bool.not_eq_false'] at *); (try simp only [Bool.not_eq_true] at *); assumption))
            go_ret
            exact ⟨ret_bool (by unfold sheetsOkB; rw [all_false_at l _ k hlt hv, Bool.and_false]), by repeat (first | exact kE | exact Ext.refl _ | apply Ext.alloc | apply Ext.drewN | apply Ext.drew | apply Ext.set0 | apply Ext.set1 | apply Ext.set2 | apply Ext.set3 | (refine Ext.setk ?_ (by omega) _) | (apply Ext.snoc; assumption))⟩
          · have hv : sheetOk l[k].1 l[k].2 = true := by (first | assumption | ((try simp only [Bool.not_eq_true'] at *); (try simp only [Bool.not_eq_false'] at *); (try simp only [Bool.not_eq_true] at *); assumption))
            go_roundw
            case rel => exact ⟨k + 1, by omega, by go_num, hide (by rw [HN.out, hp.out, hv]; rfl), by have hE := HQ.out; clear kE; repeat (first | exact kE | exact Ext.refl _ | apply Ext.alloc | apply Ext.drewN | apply Ext.drew | apply Ext.set0 | apply Ext.set1 | apply Ext.set2 | apply Ext.set3 | (refine Ext.setk ?_ (by omega) _) | (apply Ext.snoc; assumption))⟩
            case measure => simp [intOf]; omega
        · go_wp2
          go_ret
          exact ⟨ret_bool (by have := hp.out; rw [List.take_of_length_le (by omega)] at this; have h6 : l.length ≤ 6 := by omega
                              unfold sheetsOkB; rw [this, h1, decide_eq_true h6]; rfl), by repeat (first | exact kE | exact Ext.refl _ | apply Ext.alloc | apply Ext.drewN | apply Ext.drew | apply Ext.set0 | apply Ext.set1 | apply Ext.set2 | apply Ext.set3 | (refine Ext.setk ?_ (by omega) _) | (apply Ext.snoc; assumption))⟩
  · have h1' : sheetOk W H = false := by simpa using h1
    clear h1
    go_wp2_with fail
    go_ret
    exact ⟨ret_bool (by simp [sheetsOkB, h1']), by repeat (first | exact kE | exact Ext.refl _ | apply Ext.alloc | apply Ext.drewN | apply Ext.drew | apply Ext.set0 | apply Ext.set1 | apply Ext.set2 | apply Ext.set3 | (refine Ext.setk ?_ (by omega) _) | (apply Ext.snoc; assumption))⟩
theorem l20Ok_any (W H : Int) (l : List P2) (A : Option Addr) (c : Nat) (w : World) (hl : l.length ≤ 1048576) (hr : R2 w A l) :
    Calls Try.prog 60 #[.agg #[.int .i64 W, .int .i64 H], .slice A l.length c] w fun e w' => e = .returned (.bool (sheetsOkB W H l)) ∧ Ext w w' := by
  have HR := hide hr
  clear hr
  
  go_enter Try.func60, Try.ntmps60
  go_wp2_with fail
  obtain ⟨w1, hw⟩ : ∃ w1, w1 = (w.alloc (Obj.cells #[Value.int IntKind.i64 W, Value.int IntKind.i64 H] 25)) := ⟨_, rfl⟩; rw [← hw]; have kT : Tr [(w.heap.size, [.int .i64 W, .int .i64 H])] w w1 := (by rw [hw]; exact ⟨by (first | (simp [Bx, CellsAt, go_sem, *]; done) | (simp [Bx, CellsAt, go_sem, *]; omega)), by (repeat (first | exact kE | exact Ext.refl _ | apply Ext.alloc | apply Ext.drewN | apply Ext.drew | apply Ext.set0 | apply Ext.set1 | apply Ext.set2 | apply Ext.set3 | (refine Ext.setk ?_ (by omega) _) | (apply Ext.snoc; assumption)))⟩); have HT := hide kT; clear hw kT; have kT := HT.out; simp only [Tr, Bx, CellsAt, Nat.reduceAdd, Nat.zero_add, and_true] at kT; obtain ⟨⟨kz0, kf0, kc0_0, kc0_1⟩, kE⟩ := kT
  clear kz0 kf0 kc0_0 kc0_1 kE
  go_loopw [5] (fun i wr => ∃ k : Nat, k ≤ l.length ∧ i = .int .i64 k ∧ Hid ((l.take k).all (fun p => sheetOk p.1 p.2) = true) ∧ Ext w1 wr) (fun i _ => l.length - (intOf i).toNat)
  case atStart => exact ⟨0, Nat.zero_le _, rfl, hide (by simp), Ext.refl _⟩
  case round =>
    obtain ⟨k, hk, rfl, hp, hE⟩ := hrel
    have HQ := hide hE
    have HT := hide (HT.out.ext hE); clear hE; have kT := HT.out; simp only [Tr, Bx, CellsAt, Nat.reduceAdd, Nat.zero_add, and_true] at kT; obtain ⟨⟨kz0, kf0, kc0_0, kc0_1⟩, kE⟩ := kT
    by_cases hlt : k < l.length
    · obtain ⟨b, off, rfl, hb, e0, e1⟩ := R2.at_ (HR.out.ext kE) hlt
      have HN := hide (all_take_succ l (fun p => sheetOk p.1 p.2) k hlt)
      go_wp2_with (first | (go_at_call 50; refine (sSheetOk_any _ _ _).mono ?_; rintro e w5 ⟨rfl, hb5⟩))
      · have hv : sheetOk l[k].1 l[k].2 = false := by (first | assumption | ((try simp only [Bool.not_eq_true'] at *); (try simp only [Bool.not_eq_false'] at *); (try simp only [Bool.not_eq_true] at *); assumption))
        go_ret
        exact ⟨ret_bool (by unfold sheetsOkB; rw [all_false_at l _ k hlt hv, Bool.and_false]), by repeat (first | exact kE | exact Ext.refl _ | apply Ext.alloc | apply Ext.drewN | apply Ext.drew | apply Ext.set0 | apply Ext.set1 | apply Ext.set2 | apply Ext.set3 | (refine Ext.setk ?_ (by omega) _) | (apply Ext.snoc; assumption))⟩
      · have hv : sheetOk l[k].1 l[k].2 = true := by (first | assumption | ((try simp only [Bool.not_eq_true'] at *); (try simp only [Bool.not_eq_false'] at *); (try simp only [Bool.not_eq_true] at *); assumption))
        go_roundw
        case rel => exact ⟨k + 1, by omega, by go_num, hide (by rw [HN.out, hp.out, hv]; rfl), by have hE := HQ.out; clear kE; repeat (first | exact kE | exact Ext.refl _ | apply Ext.alloc | apply Ext.drewN | apply Ext.drew | apply Ext.set0 | apply Ext.set1 | apply Ext.set2 | apply Ext.set3 | (refine Ext.setk ?_ (by omega) _) | (apply Ext.snoc; assumption))⟩
        case measure => simp [intOf]; omega
    · have hall : l.all (fun p => sheetOk p.1 p.2) = true := by have := hp.out; rwa [List.take_of_length_le (by omega)] at this
      have HA := hide hall
      clear hall
      go_wp2_with (first | (go_at_call 50; refine (sSheetOk_any _ _ _).mono ?_; rintro e w5 ⟨rfl, hb5⟩))
      all_goals (go_ret; exact ⟨ret_bool (by unfold sheetsOkB; rw [HA.out]; ((try simp only [Bool.not_eq_true'] at *); (try simp only [Bool.not_eq_false'] at *); (try simp only [Bool.not_eq_true] at *)); (try simp only [*]); (try simp); (try rw [Bool.eq_iff_iff]); (try simp); (try omega)), by repeat (first | exact kE | exact Ext.refl _ | apply Ext.alloc | apply Ext.drewN | apply Ext.drew | apply Ext.set0 | apply Ext.set1 | apply Ext.set2 | apply Ext.set3 | (refine Ext.setk ?_ (by omega) _) | (apply Ext.snoc; assumption))⟩)

theorem BestValue_any (W H : Int) (l : List P2) (A : Option Addr) (c : Nat) (vs : List Int) (Av : Option Addr) (cv : Nat) (w : World) (hl : l.length ≤ 1048576) (hlv : vs.length ≤ 1048576) (hr : R2 w A l) (hrv : RI w Av vs) :
    Calls Try.prog 38 #[.agg #[.int .i64 W, .int .i64 H], .slice A l.length c, .slice Av vs.length cv] w fun e w' => e = .returned (.int .i64 (bestVal W H l vs)) ∧ Ext w w' := by
  have HR := hide hr
  have HV := hide hrv
  clear hr hrv
  
  go_enter Try.func38, Try.ntmps38
  go_wp2_with fail
  obtain ⟨w0, hw⟩ : ∃ w1, w1 = (w.alloc (Obj.cells #[Value.int IntKind.i64 W, Value.int IntKind.i64 H] 25)) := ⟨_, rfl⟩; rw [← hw]; have kT : Tr [(w.heap.size, [.int .i64 W, .int .i64 H])] w w0 := (by rw [hw]; exact ⟨by (first | (simp [Bx, CellsAt, go_sem, *]; done) | (simp [Bx, CellsAt, go_sem, *]; omega)), by (repeat (first | exact kE | exact Ext.refl _ | apply Ext.alloc | apply Ext.drewN | apply Ext.drew | apply Ext.set0 | apply Ext.set1 | apply Ext.set2 | apply Ext.set3 | (refine Ext.setk ?_ (by omega) _) | (apply Ext.snoc; assumption)))⟩); have HT := hide kT; clear hw kT; have kT := HT.out; simp only [Tr, Bx, CellsAt, Nat.reduceAdd, Nat.zero_add, and_true] at kT; obtain ⟨⟨kz0, kf0, kc0_0, kc0_1⟩, kE⟩ := kT
  refine (sheetsOk_any W H l A c _ hl (HR.out.ext kE)).mono ?_; rintro e w1 ⟨rfl, hb⟩; have HT := hide (HT.out.ext hb); have Hw1 := hide hb; clear hb; clear kz0 kf0 kc0_0 kc0_1 kE; have kT := HT.out; simp only [Tr, Bx, CellsAt, Nat.reduceAdd, Nat.zero_add, and_true] at kT; obtain ⟨⟨kz0, kf0, kc0_0, kc0_1⟩, kE⟩ := kT
  by_cases h1 : sheetsOkB W H l = true
  · have B := sheetOk_true (sheetsOkB_true h1).1
    by_cases h2 : vs.length = l.length
    · have hne : ((vs.length : Int) != (l.length : Int)) = false := by rw [bne_eq_false_iff_eq]; omega
      have HL := hide h2
      clear h2
      go_wp2_with fail
      refine (allWithin_any vs Av cv 0 1000 _ hlv (HV.out.ext kE)).mono ?_; rintro e w' ⟨rfl, rfl⟩
      by_cases h3 : vs.all (inR · 0 1000) = true
      · obtain ⟨Wn, rfl⟩ := Int.eq_ofNat_of_zero_le (show 0 ≤ W by omega)
        obtain ⟨Hn, rfl⟩ := Int.eq_ofNat_of_zero_le (show 0 ≤ H by omega)
        go_wp2_with fail
        refine (bestValue_any Wn Hn l A c vs Av cv 1000 _ (by omega) (by omega) (by omega) (by omega) (sheetsOkB_true h1).2.1 (good_values h1 HL.out h3) (by omega) (by omega) (HR.out.ext kE) (HV.out.ext kE)).mono ?_; rintro e w3 ⟨rfl, hb3⟩
        go_wp2
        go_ret
        exact ⟨ret_int (by have := HL.out; simp [bestVal, h1, h3, this]), by repeat (first | exact kE | exact Ext.refl _ | apply Ext.alloc | apply Ext.drewN | apply Ext.drew | apply Ext.set0 | apply Ext.set1 | apply Ext.set2 | apply Ext.set3 | (refine Ext.setk ?_ (by omega) _) | (apply Ext.snoc; assumption))⟩
      · have h3' : vs.all (inR · 0 1000) = false := by simpa using h3
        clear h3
        go_wp2_with fail
        go_ret
        exact ⟨ret_int (by simp only [bestVal, h3', Bool.and_false]; rfl), by repeat (first | exact kE | exact Ext.refl _ | apply Ext.alloc | apply Ext.drewN | apply Ext.drew | apply Ext.set0 | apply Ext.set1 | apply Ext.set2 | apply Ext.set3 | (refine Ext.setk ?_ (by omega) _) | (apply Ext.snoc; assumption))⟩
    · have hne : ((vs.length : Int) != (l.length : Int)) = true := by rw [bne_iff_ne]; omega
      go_wp2_with fail
      go_ret
      exact ⟨ret_int (by simp [bestVal, h2]), by repeat (first | exact kE | exact Ext.refl _ | apply Ext.alloc | apply Ext.drewN | apply Ext.drew | apply Ext.set0 | apply Ext.set1 | apply Ext.set2 | apply Ext.set3 | (refine Ext.setk ?_ (by omega) _) | (apply Ext.snoc; assumption))⟩
  · have h1' : sheetsOkB W H l = false := by simpa using h1
    clear h1
    go_wp2_with fail
    go_ret
    exact ⟨ret_int (by simp [bestVal, h1']), by repeat (first | exact kE | exact Ext.refl _ | apply Ext.alloc | apply Ext.drewN | apply Ext.drew | apply Ext.set0 | apply Ext.set1 | apply Ext.set2 | apply Ext.set3 | (refine Ext.setk ?_ (by omega) _) | (apply Ext.snoc; assumption))⟩
set_option maxHeartbeats 1000000 in
theorem sBestValue_any (W H : Int) (l : List P2) (A : Option Addr) (c : Nat) (vs : List Int) (Av : Option Addr) (cv : Nat) (w : World) (hl : l.length ≤ 1048576) (hlv : vs.length ≤ 1048576) (hr : R2 w A l) (hrv : RI w Av vs) :
    Calls Try.prog 35 #[.agg #[.int .i64 W, .int .i64 H], .slice A l.length c, .slice Av vs.length cv] w fun e w' => e = .returned (.int .i64 (bestVal W H l vs)) ∧ Ext w w' := by
  have HR := hide hr
  have HV := hide hrv
  clear hr hrv
  
  go_enter Try.func35, Try.ntmps35
  go_wp2_with fail
  obtain ⟨w0, hw⟩ : ∃ w1, w1 = (w.alloc (Obj.cells #[Value.int IntKind.i64 W, Value.int IntKind.i64 H] 25)) := ⟨_, rfl⟩; rw [← hw]; have kT : Tr [(w.heap.size, [.int .i64 W, .int .i64 H])] w w0 := (by rw [hw]; exact ⟨by (first | (simp [Bx, CellsAt, go_sem, *]; done) | (simp [Bx, CellsAt, go_sem, *]; omega)), by (repeat (first | exact kE | exact Ext.refl _ | apply Ext.alloc | apply Ext.drewN | apply Ext.drew | apply Ext.set0 | apply Ext.set1 | apply Ext.set2 | apply Ext.set3 | (refine Ext.setk ?_ (by omega) _) | (apply Ext.snoc; assumption)))⟩); have HT := hide kT; clear hw kT; have kT := HT.out; simp only [Tr, Bx, CellsAt, Nat.reduceAdd, Nat.zero_add, and_true] at kT; obtain ⟨⟨kz0, kf0, kc0_0, kc0_1⟩, kE⟩ := kT
  clear kz0 kf0 kc0_0 kc0_1 kE
  go_loopw [7] (fun i wr => ∃ k : Nat, k ≤ vs.length ∧ i = .int .i64 k ∧ Hid ((vs.take k).all (inR · 0 1000) = true) ∧ Ext w0 wr) (fun i _ => vs.length - (intOf i).toNat)
  case atStart => exact ⟨0, Nat.zero_le _, rfl, hide (by simp), Ext.refl _⟩
  case round =>
    obtain ⟨k, hk, rfl, hp, hE⟩ := hrel
    have HQ := hide hE
    have HT := hide (HT.out.ext hE); clear hE; have kT := HT.out; simp only [Tr, Bx, CellsAt, Nat.reduceAdd, Nat.zero_add, and_true] at kT; obtain ⟨⟨kz0, kf0, kc0_0, kc0_1⟩, kE⟩ := kT
    by_cases hlt : k < vs.length
    · obtain ⟨b, off, rfl, hb, e0⟩ := RI.at_ (HV.out.ext kE) hlt
      have HN := hide (all_take_succ vs (inR · 0 1000) k hlt)
      go_wp2_with (first | (go_at_call 49; refine (l01In_any _ _ _ _).mono ?_; rintro e w' ⟨rfl, rfl⟩))
      · have hv : inR vs[k] 0 1000 = false := by (first | assumption | ((try simp only [Bool.not_eq_true'] at *); (try simp only [Bool.not_eq_false'] at *); (try simp only [Bool.not_eq_true] at *); assumption))
        go_ret
        exact ⟨ret_int (by unfold bestVal; rw [all_false_at vs (inR · 0 1000) k hlt hv, Bool.and_false]; rfl), by repeat (first | exact kE | exact Ext.refl _ | apply Ext.alloc | apply Ext.drewN | apply Ext.drew | apply Ext.set0 | apply Ext.set1 | apply Ext.set2 | apply Ext.set3 | (refine Ext.setk ?_ (by omega) _) | (apply Ext.snoc; assumption))⟩
      · have hv : inR vs[k] 0 1000 = true := by (first | assumption | ((try simp only [Bool.not_eq_true'] at *); (try simp only [Bool.not_eq_false'] at *); (try simp only [Bool.not_eq_true] at *); assumption))
        go_roundw
        case rel => exact ⟨k + 1, by omega, by go_num, hide (by rw [HN.out, hp.out, hv]; rfl), by have hE := HQ.out; clear kE; repeat (first | exact kE | exact Ext.refl _ | apply Ext.alloc | apply Ext.drewN | apply Ext.drew | apply Ext.set0 | apply Ext.set1 | apply Ext.set2 | apply Ext.set3 | (refine Ext.setk ?_ (by omega) _) | (apply Ext.snoc; assumption))⟩
        case measure => simp [intOf]; omega
    · have hall : vs.all (inR · 0 1000) = true := by have := hp.out; rwa [List.take_of_length_le (by omega)] at this
      have HA := hide hall
      clear hall
      go_wp2_with fail
      refine (l20Ok_any W H l A c _ hl (HR.out.ext kE)).mono ?_; rintro e w1 ⟨rfl, hb⟩; have HT := hide (HT.out.ext hb); have Hw1 := hide hb; clear hb; clear kz0 kf0 kc0_0 kc0_1 kE; have kT := HT.out; simp only [Tr, Bx, CellsAt, Nat.reduceAdd, Nat.zero_add, and_true] at kT; obtain ⟨⟨kz0, kf0, kc0_0, kc0_1⟩, kE⟩ := kT
      by_cases h1 : sheetsOkB W H l = true
      · have B := sheetOk_true (sheetsOkB_true h1).1
        by_cases h2 : vs.length = l.length
        · have hne : ((vs.length : Int) != (l.length : Int)) = false := by rw [bne_eq_false_iff_eq]; omega
          have HL := hide h2
          clear h2
          obtain ⟨Wn, rfl⟩ := Int.eq_ofNat_of_zero_le (show 0 ≤ W by omega)
          obtain ⟨Hn, rfl⟩ := Int.eq_ofNat_of_zero_le (show 0 ≤ H by omega)
          go_wp2_with fail
          refine (l20Best_any Wn Hn l A c vs Av cv 1000 _ (by omega) (by omega) (by omega) (by omega) (sheetsOkB_true h1).2.1 (good_values h1 HL.out HA.out) (by omega) (by omega) (HR.out.ext kE) (HV.out.ext kE)).mono ?_; rintro e w3 ⟨rfl, hb3⟩
          go_wp2
          go_ret
          exact ⟨ret_int (by have := HL.out; have := HA.out; simp [bestVal, h1, *]), by repeat (first | exact kE | exact Ext.refl _ | apply Ext.alloc | apply Ext.drewN | apply Ext.drew | apply Ext.set0 | apply Ext.set1 | apply Ext.set2 | apply Ext.set3 | (refine Ext.setk ?_ (by omega) _) | (apply Ext.snoc; assumption))⟩
        · have hne : ((vs.length : Int) != (l.length : Int)) = true := by rw [bne_iff_ne]; omega
          go_wp2_with fail
          go_ret
          exact ⟨ret_int (by simp [bestVal, h2]), by repeat (first | exact kE | exact Ext.refl _ | apply Ext.alloc | apply Ext.drewN | apply Ext.drew | apply Ext.set0 | apply Ext.set1 | apply Ext.set2 | apply Ext.set3 | (refine Ext.setk ?_ (by omega) _) | (apply Ext.snoc; assumption))⟩
      · have h1' : sheetsOkB W H l = false := by simpa using h1
        clear h1
        go_wp2_with fail
        go_ret
        exact ⟨ret_int (by simp [bestVal, h1']), by repeat (first | exact kE | exact Ext.refl _ | apply Ext.alloc | apply Ext.drewN | apply Ext.drew | apply Ext.set0 | apply Ext.set1 | apply Ext.set2 | apply Ext.set3 | (refine Ext.setk ?_ (by omega) _) | (apply Ext.snoc; assumption))⟩
end Go.Proofs.Ytjibcmmnohjhkaa
