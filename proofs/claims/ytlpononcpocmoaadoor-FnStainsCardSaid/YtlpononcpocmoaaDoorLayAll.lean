/- Walks of LayAll. No condition but that a list has at most 1048576 elements. -/
import Derived.Test.YtlpononcpocmoaaDoorStainS
import Derived.Test.YtlpononcpocmoaaDoorTrack
import Derived.Test.YtlpononcpocmoaaDoorMat
import Derived.Test.YtlpononcpocmoaaDoorRegR
set_option linter.unusedSimpArgs false
set_option linter.unusedVariables false
namespace Go.Proofs.YtlpononcpocmoaaDoor
open Go.RowKit

def okS (s : P3) : Bool := stainOk s.1 s.2.1 s.2.2
def layTo (l : List P3) : Nat → P3
  | 0 => (1000, 1000, 1000)
  | k + 1 => match l[k]? with
    | some s => layS (layTo l k).1 (layTo l k).2.1 (layTo l k).2.2 s.1 s.2.1 s.2.2
    | none => layTo l k
theorem layTo_succ {l : List P3} {k : Nat} (h : k < l.length) : layTo l (k + 1) = layS (layTo l k).1 (layTo l k).2.1 (layTo l k).2.2 l[k].1 l[k].2.1 l[k].2.2 := by
  simp only [layTo, List.getElem?_eq_getElem h]
def layAllV (l : List P3) : P3 := if decide (l.length ≤ 20) && l.all okS then layTo l l.length else (0, 0, 0)
theorem layAllV_many {l : List P3} (h : 20 < l.length) : layAllV l = (0, 0, 0) := by
  unfold layAllV
  rw [if_neg (by simp; omega)]
theorem layAllV_bad {l : List P3} {k : Nat} (hk : k < l.length) (h : okS l[k] = false) : layAllV l = (0, 0, 0) := by
  unfold layAllV
  rw [all_false_at l okS k hk h, Bool.and_false, if_neg (by simp)]
theorem layAllV_all {l : List P3} (h : l.length ≤ 20) (ha : l.all okS = true) : layAllV l = layTo l l.length := by
  unfold layAllV
  rw [ha, decide_eq_true h, if_pos (by rfl)]

set_option maxHeartbeats 2000000 in
theorem LayAll_any (l : List P3) (A : Option Addr) (c : Nat) (w : World) (hl : l.length ≤ 1048576) (hr : R3 w A l) :
    Calls Tryd.prog 12 #[.slice A l.length c] w fun e w' => e = .returned (.agg #[.int .i64 (layAllV l).1, .int .i64 (layAllV l).2.1, .int .i64 (layAllV l).2.2]) ∧ Ext w w' := by
  have HR := hide hr
  clear hr
  
  by_cases h20 : (20 : Int) < l.length
  · go_enter Tryd.func12, Tryd.ntmps12
    go_wp2_with fail
    have HEV := hide (layAllV_many (l := l) (by omega))
    refine bodyPost_ret (v := .agg #[.int .i64 0, .int .i64 0, .int .i64 0]) (by simp only [results, Tryd.results12]; go_simp) rfl ⟨?_, ?_⟩
    · rw [HEV.out]
    · repeat (first | exact kE | exact Ext.refl _ | apply Ext.alloc | apply Ext.drewN | apply Ext.drew | apply Ext.set0 | apply Ext.set1 | apply Ext.set2 | apply Ext.set3 | (refine Ext.setk ?_ (by omega) _) | (apply Ext.snoc; assumption))
  · have hl20 : l.length ≤ 20 := by omega
    go_enter Tryd.func12, Tryd.ntmps12
    go_wp2_with fail
    obtain ⟨w1, hw⟩ : ∃ w1, w1 = w.alloc (Obj.cells #[Value.int IntKind.i64 0, Value.int IntKind.i64 0, Value.int IntKind.i64 0] 25) := ⟨_, rfl⟩
    have hT : Tr [(w.heap.size, [.int .i64 0, .int .i64 0, .int .i64 0])] w w1 := by rw [hw]; exact ⟨by simp [Bx, CellsAt, go_sem, *], by repeat (first | exact kE | exact Ext.refl _ | apply Ext.alloc | apply Ext.drewN | apply Ext.drew | apply Ext.set0 | apply Ext.set1 | apply Ext.set2 | apply Ext.set3 | (refine Ext.setk ?_ (by omega) _) | (apply Ext.snoc; assumption))⟩
    have hz : w1.heap.size ≤ w.heap.size + 1 ∧ w.heap.size + 1 ≤ w1.heap.size := by rw [hw]; simp
    have HT := hide hT
    have HZ := hide hz
    have HB0 : Hid (Blk (w1.alloc (Obj.cells #[Value.int IntKind.i64 1000, Value.int IntKind.i64 1000, Value.int IntKind.i64 1000] 25)) (w.heap.size + 1) 25 [.int .i64 1000, .int .i64 1000, .int .i64 1000]) := hide (by
      have e : w.heap.size + 1 = w1.heap.size := by omega
      rw [e]
      exact Blk.new w1 _ [_, _, _])
    rw [← hw]
    clear hw hT hz
    go_loopw [13] (fun i wr => ∃ k : Nat, k ≤ l.length ∧ i = .int .i64 k ∧ Hid ((l.take k).all okS = true) ∧ Hid (0 < k → l.length ≤ 20) ∧ Blk wr (w.heap.size + 1) 25 [.int .i64 (layTo l k).1, .int .i64 (layTo l k).2.1, .int .i64 (layTo l k).2.2] ∧ Ext w1 wr) (fun i _ => l.length - (intOf i).toNat)
    case atStart => exact ⟨0, Nat.zero_le _, rfl, hide (by simp), hide (fun h => absurd h (by omega)), HB0.out, (Ext.refl _).alloc _⟩
    case round =>
      obtain ⟨k, hk, rfl, hp, h20, hB, hE⟩ := hrel
      have HB := hide hB
      have HE := hide hE
      
      have kT0 : Tr [(w.heap.size, [.int .i64 0, .int .i64 0, .int .i64 0]), (w.heap.size + 1, [.int .i64 (layTo l k).1, .int .i64 (layTo l k).2.1, .int .i64 (layTo l k).2.2])] w wr := ⟨⟨(HT.out.ext hE).1.1, ⟨hB.lt, hB.free, hB.cell 0, hB.cell 1, hB.cell 2, trivial⟩, trivial⟩, (HT.out.ext hE).2⟩
      have HT := hide kT0
      clear kT0 hB hE
      have kT := HT.out; simp only [Tr, Bx, CellsAt, Nat.reduceAdd, Nat.zero_add, and_true] at kT; obtain ⟨⟨⟨kz0, kf0, kc0_0, kc0_1, kc0_2⟩, ⟨kz1, kf1, kc1_0, kc1_1, kc1_2⟩⟩, kE⟩ := kT
      by_cases hlt : k < l.length
      · obtain ⟨b, off, rfl, hb, e0, e1, e2⟩ := R3.at_ (HR.out.ext kE) hlt
        have HN := hide (all_take_succ l okS k hlt)
        have HS := hide (layTo_succ hlt)
        go_wp2_with fail
        obtain ⟨w4, hw⟩ : ∃ w1, w1 = wr.alloc (Obj.cells #[Value.int IntKind.i64 l[k].1, Value.int IntKind.i64 l[k].2.1, Value.int IntKind.i64 l[k].2.2] 25) := ⟨_, rfl⟩; rw [← hw]; have Hw4 := hide (show Ext wr w4 from (by (rw [hw]; (try clear kE); repeat (first | exact kE | exact Ext.refl _ | apply Ext.alloc | apply Ext.drewN | apply Ext.drew | apply Ext.set0 | apply Ext.set1 | apply Ext.set2 | apply Ext.set3 | (refine Ext.setk ?_ (by omega) _) | (apply Ext.snoc; assumption))))); have HT := hide (HT.out.more Hw4.out (wr.heap.size) [.int .i64 l[k].1, .int .i64 l[k].2.1, .int .i64 l[k].2.2] (by (rw [hw]; first | (simp [CellsAt, go_sem, *]; done) | (simp [CellsAt, go_sem, *]; omega)))); have Zw4 := hide (congrArg (fun z : World => z.heap.size) hw); clear hw kz0 kf0 kc0_0 kc0_1 kc0_2 kz1 kf1 kc1_0 kc1_1 kc1_2 kE; have kT := HT.out; simp only [Tr, Bx, CellsAt, Nat.reduceAdd, Nat.zero_add, and_true] at kT; obtain ⟨⟨⟨kz0, kf0, kc0_0, kc0_1, kc0_2⟩, ⟨kz1, kf1, kc1_0, kc1_1, kc1_2⟩, ⟨kz2, kf2, kc2_0, kc2_1, kc2_2⟩⟩, kE⟩ := kT
        refine (StainOk_any _ _ _ _).mono ?_; rintro e w5 ⟨rfl, hb⟩; have HT := hide (HT.out.ext hb); have Hw5 := hide hb; clear hb; clear kz0 kf0 kc0_0 kc0_1 kc0_2 kz1 kf1 kc1_0 kc1_1 kc1_2 kz2 kf2 kc2_0 kc2_1 kc2_2 kE; have kT := HT.out; simp only [Tr, Bx, CellsAt, Nat.reduceAdd, Nat.zero_add, and_true] at kT; obtain ⟨⟨⟨kz0, kf0, kc0_0, kc0_1, kc0_2⟩, ⟨kz1, kf1, kc1_0, kc1_1, kc1_2⟩, ⟨kz2, kf2, kc2_0, kc2_1, kc2_2⟩⟩, kE⟩ := kT
        by_cases hs : stainOk l[k].1 l[k].2.1 l[k].2.2 = true
        · have HSO := hide hs
          go_wp2_with fail
          refine (LayStains_any _ _ _ _ _ _ _).mono ?_; rintro e w7 ⟨rfl, hb⟩; have HT := hide (HT.out.ext hb); have Hw7 := hide hb; clear hb; clear kz0 kf0 kc0_0 kc0_1 kc0_2 kz1 kf1 kc1_0 kc1_1 kc1_2 kz2 kf2 kc2_0 kc2_1 kc2_2 kE; have kT := HT.out; simp only [Tr, Bx, CellsAt, Nat.reduceAdd, Nat.zero_add, and_true] at kT; obtain ⟨⟨⟨kz0, kf0, kc0_0, kc0_1, kc0_2⟩, ⟨kz1, kf1, kc1_0, kc1_1, kc1_2⟩, ⟨kz2, kf2, kc2_0, kc2_1, kc2_2⟩⟩, kE⟩ := kT
          go_wp2_with fail
          have hb8 := ((((HB.out.ext Hw4.out).ext Hw5.out).ext Hw7.out).set 0 (.int .i64 (layTo l (k + 1)).1)).set 1 (.int .i64 (layTo l (k + 1)).2.1) |>.set 2 (.int .i64 (layTo l (k + 1)).2.2)
          have he8 := ((((HE.out.trans Hw4.out).trans Hw5.out).trans Hw7.out).set (p := ⟨w.heap.size + 1, 0, none⟩) HZ.out.1 (.int .i64 (layTo l (k + 1)).1)).set (p := ⟨w.heap.size + 1, 1, none⟩) HZ.out.1 (.int .i64 (layTo l (k + 1)).2.1) |>.set (p := ⟨w.heap.size + 1, 2, none⟩) HZ.out.1 (.int .i64 (layTo l (k + 1)).2.2)
          have HB8 := hide hb8
          have HE8 := hide he8
          clear hb8 he8 hs
          go_roundw
          case rel =>
            refine ⟨k + 1, by omega, by go_num, hide (by rw [HN.out, hp.out]; exact HSO.out), hide (fun _ => hl20), ?_, ?_⟩
            · have := HB8.out
              rw [HS.out] at this ⊢
              exact this
            · have := HE8.out
              rw [HS.out] at this
              exact this
          case measure => simp [intOf]; omega
        · have hs' : stainOk l[k].1 l[k].2.1 l[k].2.2 = false := by simpa using hs
          have HEV := hide (layAllV_bad hlt hs')
          clear hs
          go_wp2_with fail
          refine bodyPost_ret (v := .agg #[.int .i64 0, .int .i64 0, .int .i64 0]) (by simp only [results, Tryd.results12]; go_simp) rfl ⟨?_, ?_⟩
          · rw [HEV.out]
          · repeat (first | exact kE | exact Ext.refl _ | apply Ext.alloc | apply Ext.drewN | apply Ext.drew | apply Ext.set0 | apply Ext.set1 | apply Ext.set2 | apply Ext.set3 | (refine Ext.setk ?_ (by omega) _) | (apply Ext.snoc; assumption))
      · obtain rfl : k = l.length := by omega
        have ha : l.all okS = true := by have := hp.out; rwa [List.take_of_length_le (Nat.le_refl _)] at this
        have HEV := hide (layAllV_all hl20 ha)
        clear ha
        
        go_wp2_with fail
        refine bodyPost_ret (v := .agg #[.int .i64 (layTo l l.length).1, .int .i64 (layTo l l.length).2.1, .int .i64 (layTo l l.length).2.2]) (by simp only [results, Tryd.results12]; go_simp) rfl ⟨?_, ?_⟩
        · rw [HEV.out]
        · repeat (first | exact kE | exact Ext.refl _ | apply Ext.alloc | apply Ext.drewN | apply Ext.drew | apply Ext.set0 | apply Ext.set1 | apply Ext.set2 | apply Ext.set3 | (refine Ext.setk ?_ (by omega) _) | (apply Ext.snoc; assumption))
end Go.Proofs.YtlpononcpocmoaaDoor
