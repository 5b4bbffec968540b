/- Walks of the order of firing, in both forms. No condition but that a list has at most 1048576 elements. -/
import Derived.Test.YtgddpeaoacmfnaaFireO
import Derived.Test.YtgddpeaoacmfnaaMarkInt
set_option linter.unusedSimpArgs false
set_option linter.unusedVariables false
namespace Go.Proofs.Ytgddpeaoacmfnaa
open Go.RowKit

def fireV (l : List P3) : List Int := if firingsB l then orderI l l.length else []
theorem fireV_yes {l : List P3} (h : firingsB l = true) : fireV l = orderI l l.length := by unfold fireV; rw [h]; rfl
theorem fireV_no {l : List P3} (h : firingsB l = false) : fireV l = [] := by unfold fireV; rw [h]; rfl
theorem fireV_length (l : List P3) (hl : l.length ≤ 1048576) : (fireV l).length ≤ 1048576 := by
  unfold fireV
  split
  · rw [orderI_length]; exact hl
  · simp
theorem own_of_blk {w : World} {blk base : Nat} {T : TypeId} {l : List Int} (h : Blk w blk T (encI l)) (hb : base ≤ blk) (hl : l.length ≤ 1048576) : w.ownsRow base T 1 (.slice (some ⟨blk, 0, none⟩) l.length l.length) l.length (encI l) :=
  ⟨by simp [encI_length], .inr ⟨blk, l.length, _, rfl, hb, h, Nat.le_refl _, by unfold maxLen; omega, by simp [encI], by
    show (encI l).toArray.toList.take (l.length * 1) = encI l
    rw [Nat.mul_one, List.take_of_length_le (by simp [encI])]⟩⟩
theorem ids_row (n : Nat) : rowOf n (fun j => if j < n then (j : Int) else 0) = encI (idsI n) := by
  unfold rowOf encI idsI
  rw [List.map_map]
  refine List.map_congr_left fun j hj => ?_
  have : j < n := by simpa using hj
  simp [this]
set_option maxHeartbeats 2000000 in
theorem FireOrder_any (l : List P3) (A : Option Addr) (c : Nat) (w : World) (hl : l.length ≤ 1048576) (hr : R3 w A l) :
    Calls Try.prog 15 #[.slice A l.length c] w fun e w' => ∃ Ar cr, e = .returned (.slice Ar (fireV l).length cr) ∧ w'.ownsRow w.heap.size 3 1 (.slice Ar (fireV l).length cr) (fireV l).length (encI (fireV l)) ∧ Ext w w' := by
  obtain ⟨j0, hj, hy0, hy1, hy2⟩ := info_parts int_info
  have HR := hide hr
  clear hr
  by_cases h1 : firingsB l = true
  · have H1 := hide h1
    obtain ⟨h10, hall⟩ := firingsB_true h1
    have HV := hide (fireV_yes h1)
    have HALL := hide hall
    clear hall
    
    go_enter Try.func15, Try.ntmps15
    go_wp2_with fail
    obtain ⟨w0, hw⟩ : ∃ w1, w1 = (w.alloc (Obj.cells #[Value.slice A l.length c] 25)) := ⟨_, rfl⟩; rw [← hw]; have kT : Tr [(w.heap.size, [.slice A l.length c])] w w0 := (by rw [hw]; exact ⟨by (first | (simp [Bx, CellsAt, go_sem, *]; done) | (simp [Bx, CellsAt, go_sem, *]; omega)), by (repeat (first | exact kE | exact Ext.refl _ | apply Ext.alloc | apply Ext.drewN | apply Ext.drew | apply Ext.set0 | apply Ext.set1 | apply Ext.set2 | apply Ext.set3 | (refine Ext.setk ?_ (by omega) _) | (apply Ext.snoc; assumption)))⟩); have HT := hide kT; clear hw kT; have kT := HT.out; simp only [Tr, Bx, CellsAt, Nat.reduceAdd, Nat.zero_add, and_true] at kT; obtain ⟨⟨kz0, kf0, kc0_0⟩, kE⟩ := kT
    refine (firingsOk_any l A c _ hl (HR.out.ext kE)).mono ?_; rintro e w1 ⟨rfl, hb⟩; have HT := hide (HT.out.ext hb); have Hw1 := hide hb; clear hb; clear kz0 kf0 kc0_0 kE; have kT := HT.out; simp only [Tr, Bx, CellsAt, Nat.reduceAdd, Nat.zero_add, and_true] at kT; obtain ⟨⟨kz0, kf0, kc0_0⟩, kE⟩ := kT
    rw [h1]
    clear h1
    have hz1 : w.heap.size < w1.heap.size := kz0
    go_wp2_with (at_make; refine wpList_make_full _ rfl _ _ 29 rfl w1.heap.size 3 j0 (.int .i64 0) 1 Try.underlying29 hj hy0 hy1 .i64 .i64 l.length l.length l.length rfl rfl rfl rfl (by rw [hy2]; omega) (by unfold maxLen; omega) (Nat.le_refl _) ?_; intro w2 hown hgrow)
    rw [made_zeros, rowOf_zero] at hown
    have HO := hide (Blk.of_full hown)
    have HG := hide (grown_ext hgrow)
    clear hown hgrow
    clear kz0 kf0 kc0_0 kE
    have HT1 := HT
    go_loopw [13] (fun i wr => ∃ k : Nat, k ≤ l.length ∧ i = .int .i64 k ∧ Blk wr w1.heap.size 3 (rowOf l.length (fun j => if j < k then (j : Int) else 0)) ∧ Ext w1 wr) (fun i _ => l.length - (intOf i).toNat)
    case atStart => exact ⟨0, Nat.zero_le _, rfl, by simpa using HO.out, HG.out⟩
    case round =>
      obtain ⟨k, hk, rfl, hB, hE⟩ := hrel
      have HB := hide hB
      have HE := hide hE
      clear hB
      have HT := HT1
      have HT := hide (HT.out.ext hE); clear hE; have kT := HT.out; simp only [Tr, Bx, CellsAt, Nat.reduceAdd, Nat.zero_add, and_true] at kT; obtain ⟨⟨kz0, kf0, kc0_0⟩, kE⟩ := kT
      by_cases hlt : k < l.length
      · have d0 : wr.cell? ⟨w1.heap.size, k, none⟩ = some (.int .i64 (if k < k then (k : Int) else 0)) := (HB.out.cell k).trans (rowOf_get _ hlt)
        have f0 := HB.out.free k
        go_wp2_with fail
        have h2 := HB.out.set k (.int .i64 (k : Int))
        rw [rowOf_set _ _ hlt] at h2
        have e2 : (fun j => if j = k then (k : Int) else if j < k then (j : Int) else 0) = (fun j => if j < k + 1 then (j : Int) else 0) := by
          funext j
          by_cases e : j = k
          · subst e; simp
          · by_cases e3 : j < k
            · rw [if_neg e, if_pos e3, if_pos (by omega)]
            · rw [if_neg e, if_neg e3, if_neg (by omega)]
        rw [e2] at h2
        have H2 := hide h2
        have H3 := hide (HE.out.set (p := ⟨w1.heap.size, k, none⟩) (Nat.le_refl _) (.int .i64 (k : Int)))
        clear h2 d0 f0 e2
        go_roundw
        case rel => exact ⟨k + 1, by omega, by go_num, H2.out, H3.out⟩
        case measure => simp [intOf]; omega
      · obtain rfl : k = l.length := by omega
        have hb2 := HB.out
        rw [ids_row] at hb2
        have HB2 := hide hb2
        have hA : 0 < l.length → ∀ b off, A = some ⟨b, off, none⟩ → b ≠ w1.heap.size := fun h0 b off e => by
          obtain ⟨b', off', e', hb', _⟩ := R3.at_ HR.out h0
          rw [e] at e'
          injection e' with e'
          injection e' with e' _ _
          omega
        have HA := hide hA
        clear hb2 hA
        go_wp2_with fail
        refine (SortStable_any l A c w.heap.size w1.heap.size _ h10 (fun s hs => by have := HALL.out s hs; omega) kc0_0 (HR.out.ext kE) kz0 (by omega) HA.out HB2.out).mono ?_; rintro e w3 ⟨rfl, hB, hG⟩
        have HB3 := hide hB
        have HE3 := hide (kE.grown hG (fun k hk => by injection hk with hk; omega))
        clear hB hG
        go_wp2_with fail
        go_ret
        rw [HV.out]
        have hlen := orderI_length l l.length
        have ho := own_of_blk (base := w.heap.size) HB3.out (by omega) (by rw [hlen]; exact hl)
        exact ⟨some ⟨w1.heap.size, 0, none⟩, (orderI l l.length).length, by rw [hlen]; rfl, ho, HE3.out⟩
  · have h2 : firingsB l = false := by simpa using h1
    have HV := hide (fireV_no h2)
    clear h1
    
    go_enter Try.func15, Try.ntmps15
    go_wp2_with fail
    obtain ⟨w0, hw⟩ : ∃ w1, w1 = (w.alloc (Obj.cells #[Value.slice A l.length c] 25)) := ⟨_, rfl⟩; rw [← hw]; have kT : Tr [(w.heap.size, [.slice A l.length c])] w w0 := (by rw [hw]; exact ⟨by (first | (simp [Bx, CellsAt, go_sem, *]; done) | (simp [Bx, CellsAt, go_sem, *]; omega)), by (repeat (first | exact kE | exact Ext.refl _ | apply Ext.alloc | apply Ext.drewN | apply Ext.drew | apply Ext.set0 | apply Ext.set1 | apply Ext.set2 | apply Ext.set3 | (refine Ext.setk ?_ (by omega) _) | (apply Ext.snoc; assumption)))⟩); have HT := hide kT; clear hw kT; have kT := HT.out; simp only [Tr, Bx, CellsAt, Nat.reduceAdd, Nat.zero_add, and_true] at kT; obtain ⟨⟨kz0, kf0, kc0_0⟩, kE⟩ := kT
    refine (firingsOk_any l A c _ hl (HR.out.ext kE)).mono ?_; rintro e w1 ⟨rfl, hb⟩; have HT := hide (HT.out.ext hb); have Hw1 := hide hb; clear hb; clear kz0 kf0 kc0_0 kE; have kT := HT.out; simp only [Tr, Bx, CellsAt, Nat.reduceAdd, Nat.zero_add, and_true] at kT; obtain ⟨⟨kz0, kf0, kc0_0⟩, kE⟩ := kT
    rw [h2]
    clear h2
    go_wp2_with fail
    go_ret
    rw [HV.out]
    exact ⟨none, 0, rfl, World.ownsRow_nil _ _ _ _, by repeat (first | exact kE | exact Ext.refl _ | apply Ext.alloc | apply Ext.drewN | apply Ext.drew | apply Ext.set0 | apply Ext.set1 | apply Ext.set2 | apply Ext.set3 | (refine Ext.setk ?_ (by omega) _) | (apply Ext.snoc; assumption))⟩
/-- The row while k is put in: the hole stands at place m. -/
def rowT (S : List Nat) (m y : Nat) : List Int := (S.take m ++ y :: S.drop m).map fun x : Nat => (x : Int)
theorem rowT_length {S : List Nat} {m : Nat} (y : Nat) (hm : m ≤ S.length) : (rowT S m y).length = S.length + 1 := by
  simp [rowT]
  omega
theorem rowT_start (S : List Nat) (k : Nat) : rowT S S.length k = (S.map fun x : Nat => (x : Int)) ++ [(k : Int)] := by simp [rowT]
theorem rowT_get {S : List Nat} {m : Nat} (y : Nat) (hm : m + 1 ≤ S.length) : (encI (rowT S (m + 1) y))[m]? = some (.int .i64 (S[m] : Int)) := by
  have h : (S.take (m + 1) ++ y :: S.drop (m + 1))[m]? = some S[m] := by
    rw [List.getElem?_append_left (by simp; omega)]
    simp
  simp only [encI, rowT, List.getElem?_map, h]
  rfl
theorem rowT_at {S : List Nat} {m : Nat} (y : Nat) (hm : m ≤ S.length) : (encI (rowT S m y))[m]? = some (.int .i64 (y : Int)) := by
  have h : (S.take m ++ y :: S.drop m)[m]? = some y := by
    rw [List.getElem?_append_right (by simp; omega)]
    simp [Nat.min_eq_left hm]
  simp only [encI, rowT, List.getElem?_map, h]
  rfl
theorem rowT_set {S : List Nat} {m : Nat} (y z : Nat) (hm : m ≤ S.length) : (encI (rowT S m y)).set m (.int .i64 (z : Int)) = encI (rowT S m z) := by
  unfold encI rowT
  rw [List.map_map, List.map_map]
  have e : (Value.int IntKind.i64 (z : Int)) = ((Value.int .i64) ∘ (fun x : Nat => (x : Int))) z := rfl
  rw [e, ← List.map_set]
  congr 1
  rw [List.set_append_right _ _ (by simp; omega)]
  simp [Nat.min_eq_left hm]
theorem rowT_move {S : List Nat} {m : Nat} (hm : m + 1 ≤ S.length) : rowT S (m + 1) S[m] = rowT S m S[m] := by
  unfold rowT
  congr 1
  have e1 : S.take (m + 1) = S.take m ++ [S[m]] := List.take_succ_eq_append_getElem (by omega)
  have e2 : S.drop m = S[m] :: S.drop (m + 1) := List.drop_eq_getElem_cons (by omega)
  rw [e1, e2]
  simp only [List.append_assoc, List.cons_append, List.nil_append]
theorem order_succ {L : List P3} {k m : Nat} (hm : m ≤ (order L k).length) (h : insR (ltF L) k (order L k).reverse = ((order L k).drop m).reverse ++ insR (ltF L) k ((order L k).take m).reverse) (hlt : ∀ (h0 : 0 < m), ltF L k ((order L k)[m - 1]'(by omega)) = false) :
    rowT (order L k) m k = orderI L (k + 1) := by
  have h1 := ins_stop hm h hlt
  unfold rowT orderI
  rw [← h1]
  congr 1
  unfold order
  rw [orderR_succ, List.reverse_reverse]
theorem ltF_eq {L : List P3} {x y : Nat} (hx : x < L.length) (hy : y < L.length) : ltF L x y = decide ((if L[x].1 = L[y].1 then L[x].2.1 - L[y].2.1 else L[y].1 - L[x].1) < 0) := by unfold ltF cmpF; rw [paneAt_eq hx, paneAt_eq hy]
set_option maxRecDepth 100000 in
set_option maxHeartbeats 4000000 in
theorem sFireOrder_any (l : List P3) (A : Option Addr) (c : Nat) (w : World) (hl : l.length ≤ 1048576) (hr : R3 w A l) :
    Calls Try.prog 14 #[.slice A l.length c] w fun e w' => ∃ Ar cr, e = .returned (.slice Ar (fireV l).length cr) ∧ w'.ownsRow w.heap.size 3 1 (.slice Ar (fireV l).length cr) (fireV l).length (encI (fireV l)) ∧ Ext w w' := by
  obtain ⟨i0, hi, hz0, hz1, hz2⟩ := info_parts int_info
  have HR := hide hr
  clear hr
  have ho0 : (w.alloc (.cells #[] 3)).ownsRow w.heap.size 3 1 (.slice (some ⟨w.heap.size, 0, none⟩) 0 0) 0 [] := World.ownsRow_lit (base := w.heap.size) (e := 3) (size := 1) w #[] 0 (Nat.le_refl _) (Nat.zero_le _) rfl
  have HO0 := hide ho0
  clear ho0
  by_cases h1 : firingsB l = true
  · have H1 := hide h1
    obtain ⟨h10, hall⟩ := firingsB_true h1
    have HV := hide (fireV_yes h1)
    clear hall h1
    go_enter Try.func14, Try.ntmps14
    go_wp2_with fail
    go_loopw [3, 4] (fun v i wr => ∃ k : Nat, k ≤ l.length ∧ i = .int .i64 k ∧ wr.ownsRow w.heap.size 3 1 v k (encI (orderI l k)) ∧ Ext w wr) (fun _ i _ => l.length - (intOf i).toNat)
    case atStart => exact ⟨0, Nat.zero_le _, rfl, HO0.out, (Ext.refl _).alloc _⟩
    case round =>
      obtain ⟨k, hk, rfl, hown, hE⟩ := hrel
      have HO := hide hown
      have HE := hide hE
      have hsz := hE.size
      clear hown
      by_cases hlt : k < l.length
      · obtain ⟨Av, cv, hv, _, _, _⟩ := own_slice HO.out
        subst hv
        go_wp2_with fail
        refine (l22Ok_any l A c _ hl (HR.out.ext HE.out)).mono ?_; rintro e w2 ⟨rfl, hb2⟩
        have HO2 := hide (own_ext HO.out hb2)
        have HE2 := hide (HE.out.trans hb2)
        have hsz2 := HE2.out.size
        rw [H1.out]
        clear hb2 hE hsz
        go_wp2_with (at_builtin; refine wpList_append_own _ rfl _ _ 29 rfl w.heap.size 3 i0 (.int .i64 0) 1 8 Try.underlying29 hi hz0 hz1 hz2 rfl (by decide) (.slice Av k cv) k (encI (orderI l k)) rfl (own_ext HO2.out ((Ext.refl _).alloc _)) ⟨w2.heap.size, 0, none⟩ 1 1 [.int .i64 (k : Int)] rfl rfl (news_new w2 #[.int .i64 (k : Int)] 3) (enc_one _) (by unfold maxLen; omega) (by omega) (by first | (simp; done) | (simp; omega)) ?_; intro v' w4 hown4 hgrow4 hnil)
        have E4 := Ext.grown (HE2.out.alloc _) hgrow4 (own_base HO2.out (Nat.le_refl _))
        have hs4 : w4.ownsRow w.heap.size 3 1 v' (k + 1) (encI (rowT (order l k) k k)) := by
          have e : rowT (order l k) k k = orderI l k ++ [(k : Int)] := by
            have := rowT_start (order l k) k
            rw [order_length] at this
            exact this
          rw [e, encI_append]
          exact hown4
        obtain ⟨Aw, cw, hv, hcw, hA0, hA1⟩ := own_slice hs4
        subst hv
        obtain ⟨a4, ha4⟩ : ∃ a, Aw = some a := by
          cases Aw with
          | none => exact absurd (hA0 rfl) (by omega)
          | some a => exact ⟨a, rfl⟩
        subst ha4
        obtain ⟨g4, rfl, hg4, hg4z, _⟩ := hA1 a4 rfl
        have HO4 := hide hs4
        have HE4 := hide E4
        have HI0 := hide (show insR (ltF l) k (order l k).reverse = ((order l k).drop k).reverse ++ insR (ltF l) k ((order l k).take k).reverse by
          have e := order_length l k
          rw [List.drop_of_length_le (by omega), List.take_of_length_le (by omega)]
          rfl)
        clear hown4 hgrow4 hnil hs4 E4 hA0 hA1 HO HO2
        go_loopw [5] (fun i wi => ∃ m : Nat, m ≤ k ∧ i = .int .i64 m ∧ (∃ y, wi.ownsRow w.heap.size 3 1 (.slice (some ⟨g4, 0, none⟩) (k + 1) cw) (k + 1) (encI (rowT (order l k) m y))) ∧ Hid (insR (ltF l) k (order l k).reverse = ((order l k).drop m).reverse ++ insR (ltF l) k ((order l k).take m).reverse) ∧ Ext w wi ∧ g4 < wi.heap.size) (fun i _ => (intOf i).toNat)
        case atStart => exact ⟨k, Nat.le_refl _, rfl, ⟨_, HO4.out⟩, HI0, HE4.out, hg4z⟩
        case round =>
          obtain ⟨m, hm, rfl, ⟨y, hown⟩, hins, hE, hgz⟩ := hrel
          have HO := hide hown
          have HE := hide hE
          have hsz := hE.size
          have hol := order_length l k
          clear HO4 HE4 hown
          rcases Nat.eq_zero_or_pos m with hm0 | hm0
          · subst hm0
            have HF := hide (order_succ (L := l) (k := k) (m := 0) (Nat.zero_le _) hins.out (fun h => absurd h (by omega)))
            have hx0 : wr.cell? ⟨g4, 0, none⟩ = some (.int .i64 (y : Int)) := (World.ownsRow.cellAt HO.out 0 (by omega)).trans (rowT_at y (by omega))
            have hf0 := World.ownsRow.frozenAt HO.out 0
            clear hE
            go_wp2_with fail
            go_roundw
            case rel =>
              refine ⟨k + 1, by omega, by go_num, ?_, (by have hE := HE.out; repeat (first | exact kE | exact Ext.refl _ | apply Ext.alloc | apply Ext.drewN | apply Ext.drew | apply Ext.set0 | apply Ext.set1 | apply Ext.set2 | apply Ext.set3 | (refine Ext.setk ?_ (by omega) _) | (apply Ext.snoc; assumption)))⟩
              rw [← HF.out, ← rowT_set y k (show 0 ≤ (order l k).length by omega)]
              exact own_ext (World.ownsRow.stored HO.out _ _).1 (by repeat (first | exact kE | exact Ext.refl _ | apply Ext.alloc | apply Ext.drewN | apply Ext.drew | apply Ext.set0 | apply Ext.set1 | apply Ext.set2 | apply Ext.set3 | (refine Ext.setk ?_ (by omega) _) | (apply Ext.snoc; assumption)))
            case measure => simp [intOf]; omega
          · obtain ⟨j, rfl⟩ : ∃ j, m = j + 1 := ⟨m - 1, by omega⟩
            have hjS : j < (order l k).length := by omega
            obtain ⟨x, hx⟩ : ∃ x, (order l k)[j] = x := ⟨_, rfl⟩
            have hxk : x < k := by rw [← hx]; exact order_lt (List.getElem_mem hjS)
            have hxl : x < l.length := by omega
            have d0 : wr.cell? ⟨g4, j, none⟩ = some (.int .i64 (x : Int)) := (World.ownsRow.cellAt HO.out j (by omega)).trans (by rw [rowT_get y (by omega), hx])
            have d1 : wr.cell? ⟨g4, j + 1, none⟩ = some (.int .i64 (y : Int)) := (World.ownsRow.cellAt HO.out (j + 1) (by omega)).trans (rowT_at y (by omega))
            have f1 := World.ownsRow.frozenAt HO.out (j + 1)
            obtain ⟨b0, off, rfl, hb0, e0, e1, e2⟩ := R3.at_ (HR.out.ext hE) hxl
            obtain ⟨b1, off1, hA1, _, c0, c1, c2⟩ := R3.at_ (HR.out.ext hE) hlt
            injection hA1 with hA1
            injection hA1 with hA1 hA2 _
            subst hA1 hA2
            have HLT := hide (ltF_eq (L := l) hlt hxl)
            obtain ⟨p1, hp1⟩ : ∃ q, l[x].1 = q := ⟨_, rfl⟩
            obtain ⟨p2, hp2⟩ : ∃ q, l[x].2.1 = q := ⟨_, rfl⟩
            obtain ⟨p3, hp3⟩ : ∃ q, l[x].2.2 = q := ⟨_, rfl⟩
            obtain ⟨q1, hq1⟩ : ∃ q, l[k].1 = q := ⟨_, rfl⟩
            obtain ⟨q2, hq2⟩ : ∃ q, l[k].2.1 = q := ⟨_, rfl⟩
            obtain ⟨q3, hq3⟩ : ∃ q, l[k].2.2 = q := ⟨_, rfl⟩
            have hlt2 := HLT.out
            rw [hp1, hp2, hq1, hq2] at hlt2
            have HLT := hide hlt2
            rw [hp1] at e0
            rw [hp2] at e1
            rw [hp3] at e2
            rw [hq1] at c0
            rw [hq2] at c1
            rw [hq3] at c2
            have HX := hide hx
            have y1 : IntKind.i64.wrap ((j : Int) + 1 - 1) = (j : Int) := by rw [IntWalk.i64_in _ (by omega)]; omega
            clear hp1 hp2 hp3 hq1 hq2 hq3 hlt2 hx hE
            have hge4 : g4 < wr.heap.size := hgz
            by_cases a1 : q1 < p1
            · have HLTF := hide (show ltF l k x = false by rw [HLT.out, if_neg (by omega)]; exact decide_eq_false (by omega))
              have HF := hide (order_succ (L := l) (k := k) (m := j + 1) (by omega) hins.out (fun _ => by show ltF l k ((order l k)[j]) = false; rw [HX.out, HLTF.out]))
              go_wp2_with fail
              go_roundw
              case rel =>
                refine ⟨k + 1, by omega, by go_num, ?_, (by have hE := HE.out; repeat (first | exact kE | exact Ext.refl _ | apply Ext.alloc | apply Ext.drewN | apply Ext.drew | apply Ext.set0 | apply Ext.set1 | apply Ext.set2 | apply Ext.set3 | (refine Ext.setk ?_ (by omega) _) | (apply Ext.snoc; assumption)))⟩
                rw [← HF.out, ← rowT_set y k (show j + 1 ≤ (order l k).length by omega)]
                exact own_ext (World.ownsRow.stored HO.out _ _).1 (by repeat (first | exact kE | exact Ext.refl _ | apply Ext.alloc | apply Ext.drewN | apply Ext.drew | apply Ext.set0 | apply Ext.set1 | apply Ext.set2 | apply Ext.set3 | (refine Ext.setk ?_ (by omega) _) | (apply Ext.snoc; assumption)))
              case measure => simp [intOf]; omega
            · by_cases a2 : p1 = q1
              · by_cases a3 : p2 ≤ q2
                · have HLTF := hide (show ltF l k x = false by rw [HLT.out, if_pos (by omega)]; exact decide_eq_false (by omega))
                  subst a2
                  have HF := hide (order_succ (L := l) (k := k) (m := j + 1) (by omega) hins.out (fun _ => by show ltF l k ((order l k)[j]) = false; rw [HX.out, HLTF.out]))
                  go_wp2_with fail
                  go_roundw
                  case rel =>
                    refine ⟨k + 1, by omega, by go_num, ?_, (by have hE := HE.out; repeat (first | exact kE | exact Ext.refl _ | apply Ext.alloc | apply Ext.drewN | apply Ext.drew | apply Ext.set0 | apply Ext.set1 | apply Ext.set2 | apply Ext.set3 | (refine Ext.setk ?_ (by omega) _) | (apply Ext.snoc; assumption)))⟩
                    rw [← HF.out, ← rowT_set y k (show j + 1 ≤ (order l k).length by omega)]
                    exact own_ext (World.ownsRow.stored HO.out _ _).1 (by repeat (first | exact kE | exact Ext.refl _ | apply Ext.alloc | apply Ext.drewN | apply Ext.drew | apply Ext.set0 | apply Ext.set1 | apply Ext.set2 | apply Ext.set3 | (refine Ext.setk ?_ (by omega) _) | (apply Ext.snoc; assumption)))
                  case measure => simp [intOf]; omega
                · have HLTT := hide (show ltF l k x = true by rw [HLT.out, if_pos (by omega)]; exact decide_eq_true (by omega))
                  subst a2
                  have HG := hide (ins_go (m := j) (by omega) hins.out (by rw [HX.out, HLTT.out]))
                  have HMV := hide (show rowT (order l k) (j + 1) x = rowT (order l k) j x by have := rowT_move (S := order l k) (m := j) (by omega); rw [HX.out] at this; exact this)
                  go_wp2_with fail
                  go_roundw
                  case rel =>
                    refine ⟨j, by omega, by go_num, ⟨x, ?_⟩, HG, (by have hE := HE.out; repeat (first | exact kE | exact Ext.refl _ | apply Ext.alloc | apply Ext.drewN | apply Ext.drew | apply Ext.set0 | apply Ext.set1 | apply Ext.set2 | apply Ext.set3 | (refine Ext.setk ?_ (by omega) _) | (apply Ext.snoc; assumption))), by first | (simp; done) | (simp; omega)⟩
                    rw [← HMV.out, ← rowT_set y x (show j + 1 ≤ (order l k).length by omega)]
                    exact own_ext (World.ownsRow.stored HO.out _ _).1 (by repeat (first | exact kE | exact Ext.refl _ | apply Ext.alloc | apply Ext.drewN | apply Ext.drew | apply Ext.set0 | apply Ext.set1 | apply Ext.set2 | apply Ext.set3 | (refine Ext.setk ?_ (by omega) _) | (apply Ext.snoc; assumption)))
                  case measure => first | (simp [intOf]; done) | (simp [intOf]; omega)
              · have HLTT := hide (show ltF l k x = true by rw [HLT.out, if_neg (by omega)]; exact decide_eq_true (by omega))
                have HG := hide (ins_go (m := j) (by omega) hins.out (by rw [HX.out, HLTT.out]))
                have HMV := hide (show rowT (order l k) (j + 1) x = rowT (order l k) j x by have := rowT_move (S := order l k) (m := j) (by omega); rw [HX.out] at this; exact this)
                go_wp2_with fail
                go_roundw
                case rel =>
                  refine ⟨j, by omega, by go_num, ⟨x, ?_⟩, HG, (by have hE := HE.out; repeat (first | exact kE | exact Ext.refl _ | apply Ext.alloc | apply Ext.drewN | apply Ext.drew | apply Ext.set0 | apply Ext.set1 | apply Ext.set2 | apply Ext.set3 | (refine Ext.setk ?_ (by omega) _) | (apply Ext.snoc; assumption))), by first | (simp; done) | (simp; omega)⟩
                  rw [← HMV.out, ← rowT_set y x (show j + 1 ≤ (order l k).length by omega)]
                  exact own_ext (World.ownsRow.stored HO.out _ _).1 (by repeat (first | exact kE | exact Ext.refl _ | apply Ext.alloc | apply Ext.drewN | apply Ext.drew | apply Ext.set0 | apply Ext.set1 | apply Ext.set2 | apply Ext.set3 | (refine Ext.setk ?_ (by omega) _) | (apply Ext.snoc; assumption)))
                case measure => first | (simp [intOf]; done) | (simp [intOf]; omega)
      · obtain rfl : k = l.length := by omega
        obtain ⟨Av, cv, hv, _, _, _⟩ := own_slice HO.out
        subst hv
        go_wp2_with fail
        go_ret
        have hlen := orderI_length l l.length
        rw [HV.out]
        have ho := HO.out
        exact ⟨Av, cv, by rw [hlen]; rfl, by rw [hlen]; exact ho, HE.out⟩
  · have h2 : firingsB l = false := by simpa using h1
    have HV := hide (fireV_no h2)
    have hpos : 0 < l.length := by
      rcases Nat.eq_zero_or_pos l.length with h0 | h0
      · have : l = [] := List.length_eq_zero_iff.1 h0
        subst this
        exact absurd h2 (by simp [firingsB])
      · exact h0
    have H2 := hide h2
    clear h1 h2
    go_enter Try.func14, Try.ntmps14
    go_wp2_with fail
    go_loopw [3, 4] (fun v i wr => v = .slice (some ⟨w.heap.size, 0, none⟩) 0 0 ∧ i = .int .i64 0 ∧ wr = w.alloc (.cells #[] 3)) (fun _ _ _ => 0)
    case atStart => exact ⟨rfl, rfl, rfl⟩
    case round =>
      obtain ⟨rfl, rfl, rfl⟩ := hrel
      go_wp2_with fail
      refine (l22Ok_any l A c _ hl (HR.out.ext ((Ext.refl _).alloc _))).mono ?_; rintro e w2 ⟨rfl, hb2⟩
      have HB2 := hide hb2
      rw [H2.out]
      clear hb2
      go_wp2_with fail
      go_ret
      rw [HV.out]
      exact ⟨some ⟨w.heap.size, 0, none⟩, 0, rfl, own_ext HO0.out HB2.out, ((Ext.refl _).alloc _).trans HB2.out⟩
end Go.Proofs.Ytgddpeaoacmfnaa
