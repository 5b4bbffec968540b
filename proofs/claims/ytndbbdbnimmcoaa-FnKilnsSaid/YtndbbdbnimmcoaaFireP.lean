/- Walks of the order of firing, in both forms. No condition but that a list has at most 1048576 elements. -/
import Derived.Test.YtndbbdbnimmcoaaFireO
import Derived.Test.YtndbbdbnimmcoaaMarkInt
set_option linter.unusedSimpArgs false
set_option linter.unusedVariables false
namespace Go.Proofs.Ytndbbdbnimmcoaa
open Go.RowKit

def fireV (l : List P3) : List Int := if firingsB l then orderI l l.length else []
theorem fireV_yes {l : List P3} (h : firingsB l = true) : fireV l = orderI l l.length := by unfold fireV; rw [h]; rfl
theorem fireV_no {l : List P3} (h : firingsB l = false) : fireV l = [] := by unfold fireV; rw [h]; rfl
theorem fireV_length (l : List P3) (hl : l.length ≤ 1048576) : (fireV l).length ≤ 1048576 := by
  unfold fireV
  split
  · rw [orderI_length]; exact hl
  · simp
theorem own_of_blk {w : World} {blk base : Nat} {T : TypeId} {l : List Int} (h : Blk w blk T (encI l)) (hb : base ≤ blk) (hl : l.length ≤ 1048576) : w.ownsRow base T 1 (.slice (some ⟨blk, 0, none⟩) l.length l.length) l.length (encI l) :=
  ⟨by simp [encI_length], .inr ⟨blk, l.length, _, rfl, hb, h, Nat.le_refl _, by unfold maxLen; omega, by simp [encI], by
    show (encI l).toArray.toList.take (l.length * 1) = encI l
    rw [Nat.mul_one, List.take_of_length_le (by simp [encI])]⟩⟩
theorem ids_row (n : Nat) : rowOf n (fun j => if j < n then (j : Int) else 0) = encI (idsI n) := by
  unfold rowOf encI idsI
  rw [List.map_map]
  refine List.map_congr_left fun j hj => ?_
  have : j < n := by simpa using hj
  simp [this]
set_option maxHeartbeats 2000000 in
theorem FireOrder_any (l : List P3) (A : Option Addr) (c : Nat) (w : World) (hl : l.length ≤ 1048576) (hr : R3 w A l) :
    Calls Try.prog 8 #[.slice A l.length c] w fun e w' => ∃ Ar cr, e = .returned (.slice Ar (fireV l).length cr) ∧ w'.ownsRow w.heap.size 3 1 (.slice Ar (fireV l).length cr) (fireV l).length (encI (fireV l)) ∧ Ext w w' := by
  obtain ⟨j0, hj, hy0, hy1, hy2⟩ := info_parts int_info
  have HR := hide hr
  clear hr
  by_cases h1 : firingsB l = true
  · have H1 := hide h1
    obtain ⟨h10, hall⟩ := firingsB_true h1
    have HV := hide (fireV_yes h1)
    have HALL := hide hall
    clear hall
    
    go_enter Try.func8, Try.ntmps8
    go_wp2_with fail
    obtain ⟨w0, hw⟩ : ∃ w1, w1 = (w.alloc (Obj.cells #[Value.slice A l.length c] 24)) := ⟨_, rfl⟩; rw [← hw]; have kT : Tr [(w.heap.size, [.slice A l.length c])] w w0 := (by rw [hw]; exact ⟨by (first | (simp [Bx, CellsAt, go_sem, *]; done) | (simp [Bx, CellsAt, go_sem, *]; omega)), by (repeat (first | exact kE | exact Ext.refl _ | apply Ext.alloc | apply Ext.drewN | apply Ext.drew | apply Ext.set0 | apply Ext.set1 | apply Ext.set2 | apply Ext.set3 | (refine Ext.setk ?_ (by omega) _) | (apply Ext.snoc; assumption)))⟩); have HT := hide kT; clear hw kT; have kT := HT.out; simp only [Tr, Bx, CellsAt, Nat.reduceAdd, Nat.zero_add, and_true] at kT; obtain ⟨⟨kz0, kf0, kc0_0⟩, kE⟩ := kT
    refine (firingsOk_any l A c _ hl (HR.out.ext kE)).mono ?_; rintro e w1 ⟨rfl, hb⟩; have HT := hide (HT.out.ext hb); have Hw1 := hide hb; clear hb; clear kz0 kf0 kc0_0 kE; have kT := HT.out; simp only [Tr, Bx, CellsAt, Nat.reduceAdd, Nat.zero_add, and_true] at kT; obtain ⟨⟨kz0, kf0, kc0_0⟩, kE⟩ := kT
    rw [h1]
    clear h1
    have hz1 : w.heap.size < w1.heap.size := kz0
    go_wp2_with (at_make; refine wpList_make_full _ rfl _ _ 27 rfl w1.heap.size 3 j0 (.int .i64 0) 1 Try.underlying27 hj hy0 hy1 .i64 .i64 l.length l.length l.length rfl rfl rfl rfl (by rw [hy2]; omega) (by unfold maxLen; omega) (Nat.le_refl _) ?_; intro w2 hown hgrow)
    rw [made_zeros, rowOf_zero] at hown
    have HO := hide (Blk.of_full hown)
    have HG := hide (grown_ext hgrow)
    clear hown hgrow
    clear kz0 kf0 kc0_0 kE
    have HT1 := HT
    go_loopw [13] (fun i wr => ∃ k : Nat, k ≤ l.length ∧ i = .int .i64 k ∧ Blk wr w1.heap.size 3 (rowOf l.length (fun j => if j < k then (j : Int) else 0)) ∧ Ext w1 wr) (fun i _ => l.length - (intOf i).toNat)
    case atStart => exact ⟨0, Nat.zero_le _, rfl, by simpa using HO.out, HG.out⟩
    case round =>
      obtain ⟨k, hk, rfl, hB, hE⟩ := hrel
      have HB := hide hB
      have HE := hide hE
      clear hB
      have HT := HT1
      have HT := hide (HT.out.ext hE); clear hE; have kT := HT.out; simp only [Tr, Bx, CellsAt, Nat.reduceAdd, Nat.zero_add, and_true] at kT; obtain ⟨⟨kz0, kf0, kc0_0⟩, kE⟩ := kT
      by_cases hlt : k < l.length
      · have d0 : wr.cell? ⟨w1.heap.size, k, none⟩ = some (.int .i64 (if k < k then (k : Int) else 0)) := (HB.out.cell k).trans (rowOf_get _ hlt)
        have f0 := HB.out.free k
        go_wp2_with fail
        have h2 := HB.out.set k (.int .i64 (k : Int))
        rw [rowOf_set _ _ hlt] at h2
        have e2 : (fun j => if j = k then (k : Int) else if j < k then (j : Int) else 0) = (fun j => if j < k + 1 then (j : Int) else 0) := by
          funext j
          by_cases e : j = k
          · subst e; simp
          · by_cases e3 : j < k
            · rw [if_neg e, if_pos e3, if_pos (by omega)]
            · rw [if_neg e, if_neg e3, if_neg (by omega)]
        rw [e2] at h2
        have H2 := hide h2
        have H3 := hide (HE.out.set (p := ⟨w1.heap.size, k, none⟩) (Nat.le_refl _) (.int .i64 (k : Int)))
        clear h2 d0 f0 e2
        go_roundw
        case rel => exact ⟨k + 1, by omega, by go_num, H2.out, H3.out⟩
        case measure => simp [intOf]; omega
      · obtain rfl : k = l.length := by omega
        have hb2 := HB.out
        rw [ids_row] at hb2
        have HB2 := hide hb2
        have hA : 0 < l.length → ∀ b off, A = some ⟨b, off, none⟩ → b ≠ w1.heap.size := fun h0 b off e => by
          obtain ⟨b', off', e', hb', _⟩ := R3.at_ HR.out h0
          rw [e] at e'
          injection e' with e'
          injection e' with e' _ _
          omega
        have HA := hide hA
        clear hb2 hA
        go_wp2_with fail
        refine (SortStable_any l A c w.heap.size w1.heap.size _ h10 (fun s hs => by have := HALL.out s hs; omega) kc0_0 (HR.out.ext kE) kz0 (by omega) HA.out HB2.out).mono ?_; rintro e w3 ⟨rfl, hB, hG⟩
        have HB3 := hide hB
        have HE3 := hide (kE.grown hG (fun k hk => by injection hk with hk; omega))
        clear hB hG
        go_wp2_with fail
        go_ret
        rw [HV.out]
        have hlen := orderI_length l l.length
        have ho := own_of_blk (base := w.heap.size) HB3.out (by omega) (by rw [hlen]; exact hl)
        exact ⟨some ⟨w1.heap.size, 0, none⟩, (orderI l l.length).length, by rw [hlen]; rfl, ho, HE3.out⟩
  · have h2 : firingsB l = false := by simpa using h1
    have HV := hide (fireV_no h2)
    clear h1
    
    go_enter Try.func8, Try.ntmps8
    go_wp2_with fail
    obtain ⟨w0, hw⟩ : ∃ w1, w1 = (w.alloc (Obj.cells #[Value.slice A l.length c] 24)) := ⟨_, rfl⟩; rw [← hw]; have kT : Tr [(w.heap.size, [.slice A l.length c])] w w0 := (by rw [hw]; exact ⟨by (first | (simp [Bx, CellsAt, go_sem, *]; done) | (simp [Bx, CellsAt, go_sem, *]; omega)), by (repeat (first | exact kE | exact Ext.refl _ | apply Ext.alloc | apply Ext.drewN | apply Ext.drew | apply Ext.set0 | apply Ext.set1 | apply Ext.set2 | apply Ext.set3 | (refine Ext.setk ?_ (by omega) _) | (apply Ext.snoc; assumption)))⟩); have HT := hide kT; clear hw kT; have kT := HT.out; simp only [Tr, Bx, CellsAt, Nat.reduceAdd, Nat.zero_add, and_true] at kT; obtain ⟨⟨kz0, kf0, kc0_0⟩, kE⟩ := kT
    refine (firingsOk_any l A c _ hl (HR.out.ext kE)).mono ?_; rintro e w1 ⟨rfl, hb⟩; have HT := hide (HT.out.ext hb); have Hw1 := hide hb; clear hb; clear kz0 kf0 kc0_0 kE; have kT := HT.out; simp only [Tr, Bx, CellsAt, Nat.reduceAdd, Nat.zero_add, and_true] at kT; obtain ⟨⟨kz0, kf0, kc0_0⟩, kE⟩ := kT
    rw [h2]
    clear h2
    go_wp2_with fail
    go_ret
    rw [HV.out]
    exact ⟨none, 0, rfl, World.ownsRow_nil _ _ _ _, by repeat (first | exact kE | exact Ext.refl _ | apply Ext.alloc | apply Ext.drewN | apply Ext.drew | apply Ext.set0 | apply Ext.set1 | apply Ext.set2 | apply Ext.set3 | (refine Ext.setk ?_ (by omega) _) | (apply Ext.snoc; assumption))⟩
/-- The row while k is put in: the hole stands at place m. -/
def rowT (S : List Nat) (m y : Nat) : List Int := (S.take m ++ y :: S.drop m).map fun x : Nat => (x : Int)
theorem rowT_length {S : List Nat} {m : Nat} (y : Nat) (hm : m ≤ S.length) : (rowT S m y).length = S.length + 1 := by
  simp [rowT]
  omega
theorem rowT_start (S : List Nat) (k : Nat) : rowT S S.length k = (S.map fun x : Nat => (x : Int)) ++ [(k : Int)] := by simp [rowT]
theorem rowT_get {S : List Nat} {m : Nat} (y : Nat) (hm : m + 1 ≤ S.length) : (encI (rowT S (m + 1) y))[m]? = some (.int .i64 (S[m] : Int)) := by
  have h : (S.take (m + 1) ++ y :: S.drop (m + 1))[m]? = some S[m] := by
    rw [List.getElem?_append_left (by simp; omega)]
    simp
  simp only [encI, rowT, List.getElem?_map, h]
  rfl
theorem rowT_at {S : List Nat} {m : Nat} (y : Nat) (hm : m ≤ S.length) : (encI (rowT S m y))[m]? = some (.int .i64 (y : Int)) := by
  have h : (S.take m ++ y :: S.drop m)[m]? = some y := by
    rw [List.getElem?_append_right (by simp; omega)]
    simp [Nat.min_eq_left hm]
  simp only [encI, rowT, List.getElem?_map, h]
  rfl
theorem rowT_set {S : List Nat} {m : Nat} (y z : Nat) (hm : m ≤ S.length) : (encI (rowT S m y)).set m (.int .i64 (z : Int)) = encI (rowT S m z) := by
  unfold encI rowT
  rw [List.map_map, List.map_map]
  have e : (Value.int IntKind.i64 (z : Int)) = ((Value.int .i64) ∘ (fun x : Nat => (x : Int))) z := rfl
  rw [e, ← List.map_set]
  congr 1
  rw [List.set_append_right _ _ (by simp; omega)]
  simp [Nat.min_eq_left hm]
theorem rowT_move {S : List Nat} {m : Nat} (hm : m + 1 ≤ S.length) : rowT S (m + 1) S[m] = rowT S m S[m] := by
  unfold rowT
  congr 1
  have e1 : S.take (m + 1) = S.take m ++ [S[m]] := List.take_succ_eq_append_getElem (by omega)
  have e2 : S.drop m = S[m] :: S.drop (m + 1) := List.drop_eq_getElem_cons (by omega)
  rw [e1, e2]
  simp only [List.append_assoc, List.cons_append, List.nil_append]
theorem order_succ {L : List P3} {k m : Nat} (hm : m ≤ (order L k).length) (h : insR (ltF L) k (order L k).reverse = ((order L k).drop m).reverse ++ insR (ltF L) k ((order L k).take m).reverse) (hlt : ∀ (h0 : 0 < m), ltF L k ((order L k)[m - 1]'(by omega)) = false) :
    rowT (order L k) m k = orderI L (k + 1) := by
  have h1 := ins_stop hm h hlt
  unfold rowT orderI
  rw [← h1]
  congr 1
  unfold order
  rw [orderR_succ, List.reverse_reverse]
theorem ltF_eq {L : List P3} {x y : Nat} (hx : x < L.length) (hy : y < L.length) : ltF L x y = decide ((if L[x].1 = L[y].1 then L[x].2.1 - L[y].2.1 else L[y].1 - L[x].1) < 0) := by unfold ltF cmpF; rw [paneAt_eq hx, paneAt_eq hy]
end Go.Proofs.Ytndbbdbnimmcoaa
