/- Walks of FirstClear. No condition but that a list has at most 1048576 elements. -/
import Derived.Test.YtgaeafjmofbkbaaFlawE
import Derived.Test.YtgaeafjmofbkbaaTrack
import Derived.Test.YtgaeafjmofbkbaaRegR
set_option linter.unusedSimpArgs false
set_option linter.unusedVariables false
namespace Go.Proofs.Ytgaeafjmofbkbaa
open Go.RowKit

/-- The first clear place: (a, b) if ok; else there is none. -/
def FC (W H : Int) (l : List P2) (p : P2) (a b : Int) (ok : Bool) : Prop :=
  (ok = true ∧ clearB W H l (a, b) p = true ∧ ∀ x y : Int, (y < b ∨ (y = b ∧ x < a)) → clearB W H l (x, y) p = false) ∨ (ok = false ∧ a = 0 ∧ b = 0 ∧ ∀ x y : Int, clearB W H l (x, y) p = false)
theorem FC.uniq {W H : Int} {l : List P2} {p : P2} {a b a' b' : Int} {ok ok' : Bool} (h : FC W H l p a b ok) (h' : FC W H l p a' b' ok') : a = a' ∧ b = b' ∧ ok = ok' := by
  rcases h with ⟨rfl, h1, h2⟩ | ⟨rfl, rfl, rfl, h2⟩ <;> rcases h' with ⟨rfl, h3, h4⟩ | ⟨rfl, rfl, rfl, h4⟩
  · have n1 : ¬ (b' < b ∨ (b' = b ∧ a' < a)) := fun e => by rw [h2 _ _ e] at h3; cases h3
    have n2 : ¬ (b < b' ∨ (b = b' ∧ a < a')) := fun e => by rw [h4 _ _ e] at h1; cases h1
    refine ⟨?_, ?_, rfl⟩ <;> omega
  · rw [h4] at h1; cases h1
  · rw [h2] at h3; cases h3
  · exact ⟨rfl, rfl, rfl⟩
theorem clearB_in {W H : Int} {l : List P2} {a b : Int} {p : P2} (h : clearB W H l (a, b) p = true) : flawedOk W H l = true ∧ sheetOk p.1 p.2 = true ∧ 0 ≤ a ∧ a ≤ W - p.1 ∧ 0 ≤ b ∧ b ≤ H - p.2 ∧ l.all (fun s => !lies s (a, b) p) = true := by
  simp only [clearB, Bool.and_eq_true] at h
  obtain ⟨⟨⟨⟨h1, h2⟩, h3⟩, h4⟩, h5⟩ := h
  have h3 := inR_true h3
  have h4 := inR_true h4
  exact ⟨h1, h2, h3.1, h3.2, h4.1, h4.2, h5⟩
theorem clearB_out {W H : Int} {l : List P2} {a b : Int} {p : P2} (h : ¬ (flawedOk W H l = true ∧ sheetOk p.1 p.2 = true ∧ 0 ≤ a ∧ a ≤ W - p.1 ∧ 0 ≤ b ∧ b ≤ H - p.2)) : clearB W H l (a, b) p = false := by
  rcases hv : clearB W H l (a, b) p with _ | _
  · rfl
  · have := clearB_in hv
    exact absurd ⟨this.1, this.2.1, this.2.2.1, this.2.2.2.1, this.2.2.2.2.1, this.2.2.2.2.2.1⟩ h
theorem least_num {p : Nat → Prop} (h : ∃ n, p n) : ∃ n, p n ∧ ∀ m, m < n → ¬ p m := by
  obtain ⟨n, hn⟩ := h
  induction n using Nat.strongRecOn with
  | _ n ih =>
    by_cases hm : ∃ m, m < n ∧ p m
    · obtain ⟨m, hm, hp⟩ := hm
      exact ih m hm hp
    · exact ⟨n, hn, fun m hlt hp => hm ⟨m, hlt, hp⟩⟩
theorem FC.ex (W H : Int) (l : List P2) (p : P2) : ∃ a b ok, FC W H l p a b ok := by
  by_cases h : ∃ m n : Nat, clearB W H l ((n : Int), (m : Int)) p = true
  · obtain ⟨m, ⟨n0, hn0⟩, hm⟩ := least_num h
    obtain ⟨n, hn, hmin⟩ := least_num (p := fun n : Nat => clearB W H l ((n : Int), (m : Int)) p = true) ⟨n0, hn0⟩
    refine ⟨n, m, true, .inl ⟨rfl, hn, fun x y hxy => ?_⟩⟩
    rcases hv : clearB W H l (x, y) p with _ | _
    · rfl
    · have hi := clearB_in hv
      obtain ⟨x', rfl⟩ := Int.eq_ofNat_of_zero_le hi.2.2.1
      obtain ⟨y', rfl⟩ := Int.eq_ofNat_of_zero_le hi.2.2.2.2.1
      rcases hxy with h1 | ⟨h1, h2⟩
      · exact absurd ⟨x', hv⟩ (hm y' (by omega))
      · obtain rfl : y' = m := by omega
        exact absurd hv (hmin x' (by omega))
  · refine ⟨0, 0, false, .inr ⟨rfl, rfl, rfl, fun x y => ?_⟩⟩
    rcases hv : clearB W H l (x, y) p with _ | _
    · rfl
    · have hi := clearB_in hv
      obtain ⟨x', rfl⟩ := Int.eq_ofNat_of_zero_le hi.2.2.1
      obtain ⟨y', rfl⟩ := Int.eq_ofNat_of_zero_le hi.2.2.2.2.1
      exact absurd ⟨y', x', hv⟩ h
theorem FC.none {W H : Int} {l : List P2} {p : P2} {a b : Int} {ok : Bool} (hv : FC W H l p a b ok) (h : ∀ x y : Int, clearB W H l (x, y) p = false) : a = 0 ∧ b = 0 ∧ ok = false := hv.uniq (.inr ⟨rfl, rfl, rfl, h⟩)
theorem FC.some {W H : Int} {l : List P2} {p : P2} {a b a' b' : Int} {ok : Bool} (hv : FC W H l p a b ok) (h : clearB W H l (a', b') p = true) (hm : ∀ x y : Int, (y < b' ∨ (y = b' ∧ x < a')) → clearB W H l (x, y) p = false) : a = a' ∧ b = b' ∧ ok = true := hv.uniq (.inl ⟨rfl, h, hm⟩)

set_option maxHeartbeats 1000000 in
theorem FirstClear_any (W H : Int) (l : List P2) (A : Option Addr) (c : Nat) (p0 p1 a b : Int) (ok : Bool) (w : World) (hl : l.length ≤ 1048576) (hr : R2 w A l) (hv : FC W H l (p0, p1) a b ok) :
    Calls Try.prog 7 #[.agg #[.int .i64 W, .int .i64 H, .slice A l.length c], .agg #[.int .i64 p0, .int .i64 p1]] w fun e w' => e = .returned (.tuple #[.agg #[.int .i64 a, .int .i64 b], .bool ok]) ∧ Ext w w' := by
  have HR := hide hr
  have HV := hide hv
  clear hr hv
  
  go_enter Try.func7, Try.ntmps7
  go_wp2_with fail
  obtain ⟨w1, hw⟩ : ∃ w1, w1 = (((w.alloc (Obj.cells #[Value.int IntKind.i64 W, Value.int IntKind.i64 H, Value.slice A l.length c] 28)).alloc (Obj.cells #[Value.int IntKind.i64 p0, Value.int IntKind.i64 p1] 25)).alloc (Obj.cells #[Value.int IntKind.i64 0, Value.int IntKind.i64 0] 32)) := ⟨_, rfl⟩; rw [← hw]; have kT : Tr [(w.heap.size, [.int .i64 W, .int .i64 H, .slice A l.length c]), (w.heap.size + 1, [.int .i64 p0, .int .i64 p1]), (w.heap.size + 1 + 1, [.int .i64 0, .int .i64 0])] w w1 := (by rw [hw]; exact ⟨by (first | (simp [Bx, CellsAt, go_sem, *]; done) | (simp [Bx, CellsAt, go_sem, *]; omega)), by (repeat (first | exact kE | exact Ext.refl _ | apply Ext.alloc | apply Ext.drewN | apply Ext.drew | apply Ext.set0 | apply Ext.set1 | apply Ext.set2 | apply Ext.set3 | (refine Ext.setk ?_ (by omega) _) | (apply Ext.snoc; assumption)))⟩); have HT := hide kT; clear hw kT; have kT := HT.out; simp only [Tr, Bx, CellsAt, Nat.reduceAdd, Nat.zero_add, and_true] at kT; obtain ⟨⟨⟨kz0, kf0, kc0_0, kc0_1, kc0_2⟩, ⟨kz1, kf1, kc1_0, kc1_1⟩, ⟨kz2, kf2, kc2_0, kc2_1⟩⟩, kE⟩ := kT
  refine (FlawedOk_any W H l A c _ hl (HR.out.ext kE)).mono ?_; rintro e w2 ⟨rfl, hb⟩; have HT := hide (HT.out.ext hb); have Hw2 := hide hb; clear hb; clear kz0 kf0 kc0_0 kc0_1 kc0_2 kz1 kf1 kc1_0 kc1_1 kz2 kf2 kc2_0 kc2_1 kE; have kT := HT.out; simp only [Tr, Bx, CellsAt, Nat.reduceAdd, Nat.zero_add, and_true] at kT; obtain ⟨⟨⟨kz0, kf0, kc0_0, kc0_1, kc0_2⟩, ⟨kz1, kf1, kc1_0, kc1_1⟩, ⟨kz2, kf2, kc2_0, kc2_1⟩⟩, kE⟩ := kT
  by_cases h1 : flawedOk W H l = true
  · have B1 := sheetOk_true (flawed_sheet h1)
    go_wp2_with fail
    clear kz0 kf0 kc0_0 kc0_1 kc0_2 kz1 kf1 kc1_0 kc1_1 kz2 kf2 kc2_0 kc2_1 kE
    go_loopw [6] (fun i wr => ∃ k : Nat, k ≤ H.toNat ∧ i = .int .i64 k ∧ Hid (∀ x y : Int, y < k → clearB W H l (x, y) (p0, p1) = false) ∧ Ext w2 wr) (fun i _ => H.toNat - (intOf i).toNat)
    case atStart => exact ⟨0, Nat.zero_le _, rfl, hide (fun x y hy => clearB_out (by omega)), Ext.refl _⟩
    case round =>
      obtain ⟨k, hk, rfl, hp, hE⟩ := hrel
      have HE0 := hide hE
      have HT := hide (HT.out.ext hE); clear hE; have kT := HT.out; simp only [Tr, Bx, CellsAt, Nat.reduceAdd, Nat.zero_add, and_true] at kT; obtain ⟨⟨⟨kz0, kf0, kc0_0, kc0_1, kc0_2⟩, ⟨kz1, kf1, kc1_0, kc1_1⟩, ⟨kz2, kf2, kc2_0, kc2_1⟩⟩, kE⟩ := kT
      by_cases hlt : (k : Int) < H
      · obtain ⟨wo, rfl⟩ : ∃ wo : World, wo = wr := ⟨_, rfl⟩
        go_wp2_with fail
        clear kz0 kf0 kc0_0 kc0_1 kc0_2 kz1 kf1 kc1_0 kc1_1 kz2 kf2 kc2_0 kc2_1 kE
        go_loopw [7] (fun i wi => ∃ j : Nat, j ≤ W.toNat ∧ i = .int .i64 j ∧ Hid (∀ x : Int, x < j → clearB W H l (x, k) (p0, p1) = false) ∧ Ext wo wi) (fun i _ => W.toNat - (intOf i).toNat)
        case atStart => exact ⟨0, Nat.zero_le _, rfl, hide (fun x hy => clearB_out (by omega)), Ext.refl _⟩
        case round =>
          obtain ⟨j, hj, rfl, hq, hE⟩ := hrel
          have HI := hide hE
          have HT := hide (HT.out.ext hE); clear hE; have kT := HT.out; simp only [Tr, Bx, CellsAt, Nat.reduceAdd, Nat.zero_add, and_true] at kT; obtain ⟨⟨⟨kz0, kf0, kc0_0, kc0_1, kc0_2⟩, ⟨kz1, kf1, kc1_0, kc1_1⟩, ⟨kz2, kf2, kc2_0, kc2_1⟩⟩, kE⟩ := kT
          by_cases hlt2 : (j : Int) < W
          · go_wp2_with fail
            obtain ⟨w4, hw⟩ : ∃ w1, w1 = wr.alloc (Obj.cells #[Value.int IntKind.i64 j, Value.int IntKind.i64 k] 32) := ⟨_, rfl⟩; rw [← hw]; have Hw4 := hide (show Ext wr w4 from (by (rw [hw]; (try clear kE); repeat (first | exact kE | exact Ext.refl _ | apply Ext.alloc | apply Ext.drewN | apply Ext.drew | apply Ext.set0 | apply Ext.set1 | apply Ext.set2 | apply Ext.set3 | (refine Ext.setk ?_ (by omega) _) | (apply Ext.snoc; assumption))))); have HT := hide (HT.out.more Hw4.out (wr.heap.size) [.int .i64 j, .int .i64 k] (by (rw [hw]; first | (simp [CellsAt, go_sem, *]; done) | (simp [CellsAt, go_sem, *]; omega)))); have Zw4 := hide (congrArg (fun z : World => z.heap.size) hw); clear hw kz0 kf0 kc0_0 kc0_1 kc0_2 kz1 kf1 kc1_0 kc1_1 kz2 kf2 kc2_0 kc2_1 kE; have kT := HT.out; simp only [Tr, Bx, CellsAt, Nat.reduceAdd, Nat.zero_add, and_true] at kT; obtain ⟨⟨⟨kz0, kf0, kc0_0, kc0_1⟩, ⟨kz1, kf1, kc1_0, kc1_1, kc1_2⟩, ⟨kz2, kf2, kc2_0, kc2_1⟩, ⟨kz3, kf3, kc3_0, kc3_1⟩⟩, kE⟩ := kT
            refine (IsClear_any W H l A c _ _ _ _ _ hl (HR.out.ext kE)).mono ?_; rintro e w5 ⟨rfl, hb⟩; have HT := hide (HT.out.ext hb); have Hw5 := hide hb; clear hb; clear kz0 kf0 kc0_0 kc0_1 kz1 kf1 kc1_0 kc1_1 kc1_2 kz2 kf2 kc2_0 kc2_1 kz3 kf3 kc3_0 kc3_1 kE; have kT := HT.out; simp only [Tr, Bx, CellsAt, Nat.reduceAdd, Nat.zero_add, and_true] at kT; obtain ⟨⟨⟨kz0, kf0, kc0_0, kc0_1⟩, ⟨kz1, kf1, kc1_0, kc1_1, kc1_2⟩, ⟨kz2, kf2, kc2_0, kc2_1⟩, ⟨kz3, kf3, kc3_0, kc3_1⟩⟩, kE⟩ := kT
            by_cases hc : clearB W H l ((j : Int), (k : Int)) (p0, p1) = true
            · obtain ⟨rfl, rfl, rfl⟩ := HV.out.some hc (fun x y hxy => by
                rcases hxy with h | ⟨h, h'⟩
                · exact hp.out x y h
                · rw [h]; exact hq.out x h')
              go_wp2_with fail
              refine bodyPost_ret (v := .tuple #[.agg #[.int .i64 j, .int .i64 k], .bool true]) (by simp only [results, Try.results7]; go_simp) rfl ⟨?_, ?_⟩
              · rfl
              · repeat (first | exact kE | exact Ext.refl _ | apply Ext.alloc | apply Ext.drewN | apply Ext.drew | apply Ext.set0 | apply Ext.set1 | apply Ext.set2 | apply Ext.set3 | (refine Ext.setk ?_ (by omega) _) | (apply Ext.snoc; assumption))
            · have hc' : clearB W H l ((j : Int), (k : Int)) (p0, p1) = false := by simpa using hc
              have HC := hide hc'
              clear hc
              go_wp2_with fail
              clear hc'
              go_roundw
              case rel => exact ⟨j + 1, by omega, by go_num, hide (fun x hx => by
                by_cases e : x = j
                · rw [e]; exact HC.out
                · exact hq.out x (by omega)), (HI.out.trans Hw4.out).trans Hw5.out⟩
              case measure => simp [intOf]; omega
          · 
            go_wp2_with fail
            go_roundw
            case rel => exact ⟨k + 1, by omega, by go_num, hide (fun x y hy => by
                by_cases e : y < k
                · exact hp.out x y e
                · obtain rfl : y = k := by omega
                  by_cases ex : x < j
                  · exact hq.out x ex
                  · exact clearB_out (fun hh => by have := sheetOk_true hh.2.1; omega)), HE0.out.trans HI.out⟩
            case measure => simp [intOf]; omega
      · go_wp2_with fail
        obtain ⟨rfl, rfl, rfl⟩ := HV.out.none (fun x y => by
          by_cases e : y < k
          · exact hp.out x y e
          · exact clearB_out (fun hh => by have := sheetOk_true hh.2.1; omega))
        refine bodyPost_ret (v := .tuple #[.agg #[.int .i64 0, .int .i64 0], .bool false]) (by simp only [results, Try.results7]; go_simp) rfl ⟨?_, ?_⟩
        · rfl
        · repeat (first | exact kE | exact Ext.refl _ | apply Ext.alloc | apply Ext.drewN | apply Ext.drew | apply Ext.set0 | apply Ext.set1 | apply Ext.set2 | apply Ext.set3 | (refine Ext.setk ?_ (by omega) _) | (apply Ext.snoc; assumption))
  · have h1' : flawedOk W H l = false := by simpa using h1
    obtain ⟨rfl, rfl, rfl⟩ := HV.out.none (fun x y => clearB_out (fun hh => h1 hh.1))
    clear h1
    go_wp2_with fail
    refine bodyPost_ret (v := .tuple #[.agg #[.int .i64 0, .int .i64 0], .bool false]) (by simp only [results, Try.results7]; go_simp) rfl ⟨?_, ?_⟩
    · rfl
    · repeat (first | exact kE | exact Ext.refl _ | apply Ext.alloc | apply Ext.drewN | apply Ext.drew | apply Ext.set0 | apply Ext.set1 | apply Ext.set2 | apply Ext.set3 | (refine Ext.setk ?_ (by omega) _) | (apply Ext.snoc; assumption))
end Go.Proofs.Ytgaeafjmofbkbaa
