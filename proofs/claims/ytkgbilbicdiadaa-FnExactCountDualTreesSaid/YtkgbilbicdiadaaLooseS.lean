/- The walk of the reference's LooseAfter. No condition but that a list has at most 1048576 elements. -/
import Derived.Test.YtkgbilbicdiadaaLoose
import Derived.Test.YtkgbilbicdiadaaOut
set_option linter.unusedSimpArgs false
set_option linter.unusedVariables false
namespace Go.Proofs.Ytkgbilbicdiadaa
open Go.RowKit

theorem looseN_range (b : Nat → Nat → Bool) (s n : Nat) : looseN b s n = (List.range n).filter fun f => s.testBit f && looseP b s n f := by
  unfold looseN memN
  rw [List.filter_filter]
  congr 1
  funext f
  exact Bool.and_comm _ _
theorem filter_range_yes {p : Nat → Bool} {k : Nat} (h : p k = true) : castL ((List.range (k + 1)).filter p) = castL ((List.range k).filter p) ++ [(k : Int)] := by
  rw [List.range_succ, List.filter_append]
  simp [h, castL]
theorem filter_range_no {p : Nat → Bool} {k : Nat} (h : p k = false) : castL ((List.range (k + 1)).filter p) = castL ((List.range k).filter p) := by
  rw [List.range_succ, List.filter_append]
  simp [h, castL]
set_option maxRecDepth 20000 in
set_option maxHeartbeats 4000000 in
theorem sLooseAfter_any (N E : List P2) (A B : Option Addr) (c c' : Nat) (set : Int) (w : World) (hw : WR w N E A B c c') :
    Calls Try.prog 63 #[.agg #[.slice A N.length c, .slice B E.length c'], .int .i64 set] w fun e w' => ∃ A2 c2, e = .returned (.slice A2 (looseV N E set).length c2) ∧ w'.ownsRow w.heap.size 3 1 (.slice A2 (looseV N E set).length c2) (looseV N E set).length (encI (looseV N E set)) ∧ Ext w w' := by
  obtain ⟨i0, hi, hz0, hz1, hz2⟩ := info_parts int_info
  have HJ := hide (fun (W : World) (hE : Ext w W) => sAreJoined_any N E A B c c' set W (hw.ext hE))
  have HW := hide hw
  cases hj : joinedI N E set with
  | false =>
    rw [looseV_no hj]
    have HC := hide (fun (W : World) (hE : Ext w W) => by have h := HJ.out W hE; rw [hj] at h; exact h)
    clear hw hj HJ
    
    go_enter Try.func63, Try.ntmps63
    go_wp2_with fail
    obtain ⟨w0, hw⟩ : ∃ w1, w1 = (w.alloc (Obj.cells #[Value.slice A N.length c, Value.slice B E.length c'] 27)).alloc (Obj.cells #[] 3) := ⟨_, rfl⟩; rw [← hw]; have kT : Tr [(w.heap.size, [.slice A N.length c, .slice B E.length c'])] w w0 := (by rw [hw]; exact ⟨by (first | (simp [Bx, CellsAt, go_sem, *]; done) | (simp [Bx, CellsAt, go_sem, *]; omega)), by (repeat (first | exact kE | exact Ext.refl _ | apply Ext.alloc | apply Ext.drewN | apply Ext.drew | apply Ext.set0 | apply Ext.set1 | apply Ext.set2 | apply Ext.set3 | (refine Ext.setk ?_ (by omega) _) | (apply Ext.snoc; assumption)))⟩); have HT := hide kT; clear kT; have kT := HT.out; simp only [Tr, Bx, CellsAt, Nat.reduceAdd, Nat.zero_add, and_true] at kT; obtain ⟨⟨kz0, kf0, kc0_0, kc0_1⟩, kE⟩ := kT
    have HO0 := hide (show w0.ownsRow (w.heap.size + 1) 3 1 (.slice (some ⟨w.heap.size + 1, 0, none⟩) 0 0) 0 [] from by
      rw [hw]
      have h := World.ownsRow_lit (base := w.heap.size + 1) (e := 3) (size := 1) (w.alloc (Obj.cells #[Value.slice A N.length c, Value.slice B E.length c'] 27)) #[] 0 (by simp) (Nat.zero_le _) rfl
      simpa using h)
    clear hw
    refine (HC.out _ kE).mono ?_
    rintro e w2 ⟨rfl, hb2⟩
    have HE2 := hide (kE.trans hb2)
    have HO2 := hide (own_ext HO0.out hb2)
    clear hb2
    go_wp2_with fail
    go_ret
    exact ⟨some ⟨w.heap.size + 1, 0, none⟩, 0, rfl, own_mono HO2.out (by omega), HE2.out⟩
  | true =>
    obtain ⟨s, rfl, hs0, hsn, hn1, hn20, _⟩ := joinedI_yes hj
    have hwh := fcs_whole (show 0 < (fcs N E).length by omega)
    have HC := hide (fun (W : World) (hE : Ext w W) => by have h := HJ.out W hE; rw [hj] at h; exact h)
    have HN := hide (fun (W : World) (hE : Ext w W) => l13Beside_any N E A B c c' W (HW.out.ext hE) hwh)
    have HLN := hide (fun (b : Nat → Nat → Bool) n (k : Nat) (h : (s.testBit k && looseP b s n k) = true) => filter_range_yes (p := fun f => s.testBit f && looseP b s n f) h)
    have HLF := hide (fun (b : Nat → Nat → Bool) n (k : Nat) (h : (s.testBit k && looseP b s n k) = false) => filter_range_no (p := fun f => s.testBit f && looseP b s n f) h)
    obtain ⟨V, hV⟩ : ∃ V, looseV N E (s : Nat) = V := ⟨_, rfl⟩
    have HV := hide (hV.symm.trans (looseV_yes hj))
    rw [hV]
    obtain ⟨n, hn⟩ : ∃ n, (fcs N E).length = n := ⟨_, rfl⟩
    obtain ⟨b, hbb⟩ : ∃ b, besTo (sd N E) E.length = b := ⟨_, rfl⟩
    rw [hn] at hsn hn20 HN HV hn1
    rw [hbb] at HN HV
    have hp20 : 2 ^ n ≤ 2 ^ 20 := Nat.pow_le_pow_right (by decide) hn20
    have hs62 : s < 2 ^ 62 := Nat.lt_of_lt_of_le hsn (Nat.le_trans hp20 (by decide))
    have hs20 : s < 1048576 := Nat.lt_of_lt_of_le hsn hp20
    have HJN := hide (fun (x hd c2 B U : Nat) (W : World) (hM : MatB W B U hd n 99 4 b) (h0 : x ≠ 0) (h : x < 2 ^ n) => l17Joined_any n hd c2 B U x b W hM h0 h hn20)
    have HSN := hide hsn
    obtain ⟨F, hF⟩ : ∃ F : Nat → List Int, (fun k => castL ((List.range k).filter fun f => s.testBit f && looseP b s n f)) = F := ⟨_, rfl⟩
    have hFk : ∀ k, castL ((List.range k).filter fun f => s.testBit f && looseP b s n f) = F k := fun k => congrFun hF k
    have HFV := hide (show F n = V from by rw [← hFk, ← looseN_range]; exact HV.out.symm)
    have HF0 := hide (show F 0 = [] from by rw [← hFk]; rfl)
    have HFL := hide (fun k => (show (F k).length ≤ k by rw [← hFk, castL_length]; exact Nat.le_trans (List.length_filter_le _ _) (by simp)))
    have HFY := hide (fun k h => by have q := HLN.out b n k h; rw [hFk, hFk] at q; exact q)
    have HFN := hide (fun k h => by have q := HLF.out b n k h; rw [hFk, hFk] at q; exact q)
    have HLP := hide (fun f => (show looseP b s n f = (decide (s = 2 ^ f) || joinedB b (s - 2 ^ f) n) from rfl))
    clear hw hj HJ hn hbb hV hF hFk HV hsn hp20 hwh HLN HLF
    
    go_enter Try.func63, Try.ntmps63
    go_wp2_with fail
    obtain ⟨w0, hw⟩ : ∃ w1, w1 = (w.alloc (Obj.cells #[Value.slice A N.length c, Value.slice B E.length c'] 27)).alloc (Obj.cells #[] 3) := ⟨_, rfl⟩; rw [← hw]; have kT : Tr [(w.heap.size, [.slice A N.length c, .slice B E.length c'])] w w0 := (by rw [hw]; exact ⟨by (first | (simp [Bx, CellsAt, go_sem, *]; done) | (simp [Bx, CellsAt, go_sem, *]; omega)), by (repeat (first | exact kE | exact Ext.refl _ | apply Ext.alloc | apply Ext.drewN | apply Ext.drew | apply Ext.set0 | apply Ext.set1 | apply Ext.set2 | apply Ext.set3 | (refine Ext.setk ?_ (by omega) _) | (apply Ext.snoc; assumption)))⟩); have HT := hide kT; clear kT; have kT := HT.out; simp only [Tr, Bx, CellsAt, Nat.reduceAdd, Nat.zero_add, and_true] at kT; obtain ⟨⟨kz0, kf0, kc0_0, kc0_1⟩, kE⟩ := kT
    have HO0 := hide (show w0.ownsRow (w.heap.size + 1) 3 1 (.slice (some ⟨w.heap.size + 1, 0, none⟩) 0 0) 0 [] from by
      rw [hw]
      have h := World.ownsRow_lit (base := w.heap.size + 1) (e := 3) (size := 1) (w.alloc (Obj.cells #[Value.slice A N.length c, Value.slice B E.length c'] 27)) #[] 0 (by simp) (Nat.zero_le _) rfl
      simpa using h)
    have hsz0 : w.heap.size + 1 < w0.heap.size := by rw [hw]; simp
    clear hw
    refine (HC.out _ kE).mono ?_
    rintro e w2 ⟨rfl, hb2⟩
    have HO2 := hide (own_ext HO0.out hb2)
    have hsz2 := Nat.lt_of_lt_of_le hsz0 hb2.size
    have HT' := hide (HT.out.ext hb2)
    clear hb2 HT HO0 hsz0
    have HT := HT'
    clear HT'
    clear kz0 kf0 kc0_0 kc0_1 kE
    have kT := HT.out; simp only [Tr, Bx, CellsAt, Nat.reduceAdd, Nat.zero_add, and_true] at kT; obtain ⟨⟨kz0, kf0, kc0_0, kc0_1⟩, kE⟩ := kT
    go_wp2_with fail
    refine (HN.out _ kE).mono ?_
    rintro e w3 ⟨hd, c6, U, rfl, hM, hb3⟩
    have HM := hide (matTop hM)
    have HOR := hide (OutR.start (own_ext HO2.out hb3) (fun k e => by injection e with e; exact e.symm))
    have HE3 := hide (kE.trans hb3)
    have HSZ := hide hsz2
    have hsz3 := Nat.lt_of_lt_of_le hsz2 hb3.size
    clear hM hb3 HN HO2 hsz2
    clear kz0 kf0 kc0_0 kc0_1 kE
    clear HT
    go_wp2_with fail
    go_loopw [5, 7] (fun v i wr => ∃ k : Nat, k ≤ n ∧ i = .int .i64 k ∧ Hid (OutR w3 wr (w.heap.size + 1) 3 1 v (F k).length (encI (F k)))) (fun _ i _ => n - (intOf i).toNat)
    case atStart => exact ⟨0, Nat.zero_le _, rfl, hide (by rw [HF0.out]; exact HOR.out)⟩
    case round =>
      clear HOR
      obtain ⟨k, hk, rfl, HO⟩ := hrel
      by_cases hlt : k < n
      · have hlz : (k : Int) < (n : Int) := by omega
        have hFl := HFL.out k
        have bS := bit_at s k hs62
        have hwsz := HO.out.2.1.size
        have HM' := hide (HO.out.mat HM.out HSZ.out)
        cases hbS : s.testBit k with
        | false =>
          have bS' : bits .and .i64 ((s : Int) / 2 ^ k) 1 = 0 := by rw [bS, hbS]; rfl
          have HNN := hide (HFN.out k (by rw [hbS]; rfl))
          clear bS hbS HM'
          go_wp2_with fail
          go_roundw
          case rel => exact ⟨k + 1, by omega, by go_num, hide (by rw [HNN.out]; exact HO.out)⟩
          case measure => simp [intOf]; omega
        | true =>
          rw [hbS, if_pos rfl] at bS
          have hle := sub_le (bit_sub hbS)
          have HLK := hide (HLP.out k)
          have HYY := hide (fun (h : looseP b s n k = true) => HFY.out k (by rw [hbS, h]; rfl))
          have HNN := hide (fun (h : looseP b s n k = false) => HFN.out k (by rw [hbS, h]; rfl))
          have shk := shl_one (show k < 62 by omega)
          have hp0 := Nat.two_pow_pos k
          obtain ⟨P, hP⟩ : ∃ P, 2 ^ k = P := ⟨_, rfl⟩
          rw [hP] at hle HLK shk hp0
          clear hbS hP
          by_cases hne : s = P
          · have HP := hide (HYY.out (by rw [HLK.out, decide_eq_true hne]; rfl))
            have q1 : ((s : Int) == (P : Int)) = true := by simp [hne]
            have q2 : (s == P) = true := by simp [hne]
            clear hne HYY HNN HLK HM'
            go_wp2_with (at_builtin; refine wpList_append_own_at _ rfl _ _ 29 rfl (w.heap.size + 1) 3 i0 (.int .i64 0) 1 8 Try.underlying29 hi hz0 hz1 hz2 rfl (by decide) u5 (F k).length (encI (F k)) rfl (own_ext HO.out.1 ((Ext.refl _).alloc _)) ⟨wr.heap.size, 0, none⟩ 1 1 [.int .i64 (k : Int)] rfl rfl (news_new wr #[.int .i64 (k : Int)] 3) (enc_one _) (by unfold maxLen; omega) (by omega) (by first | (simp; done) | (simp; omega)) ?_; intro v' w4 hown4 hgrow4 hnil hloc)
            have ho4 : w4.ownsRow (w.heap.size + 1) 3 1 v' (F (k + 1)).length (encI (F (k + 1))) := by
              rw [HP.out, encI_append, List.length_append]
              exact hown4
            have HO4 := hide (HO.out.app ho4 hgrow4 hloc)
            clear ho4 hown4 hgrow4 hnil hloc bS shk q1 q2
            go_roundw
            case rel => exact ⟨k + 1, by omega, by go_num, HO4⟩
            case measure => simp [intOf]; omega
          · have HPP := hide (show looseP b s n k = joinedB b (s - P) n by rw [HLK.out, decide_eq_false hne]; rfl)
            have hx0 : s - P ≠ 0 := by omega
            have HC2 := hide (HJN.out (s - P) hd c6 _ _ wr HM'.out hx0 (by have := HSN.out; omega))
            have q1 : ((s : Int) == (P : Int)) = false := by simp; omega
            have q2 : (s == P) = false := by simp [hne]
            have z2 : IntKind.i64.wrap ((s : Int) - (P : Int)) = ((s - P : Nat) : Int) := by rw [← Int.ofNat_sub hle]; exact wraps_i64 _ (Int.natCast_nonneg _) (by omega)
            obtain ⟨x, hx⟩ : ∃ x, s - P = x := ⟨_, rfl⟩
            rw [hx] at HC2 HPP z2
            clear hx hne HLK hx0 HM'
            obtain ⟨v, hv⟩ : ∃ v, joinedB b x n = v := ⟨_, rfl⟩
            rw [hv] at HC2 HPP
            clear hv
            cases v with
            | true =>
              have HP := hide (HYY.out HPP.out)
              clear HYY HNN HPP
              go_wp2_with (first | (go_at_call 98; refine HC2.out.mono ?_; rintro e w5 ⟨rfl, rfl⟩) | (at_builtin; refine wpList_append_own_at _ rfl _ _ 29 rfl (w.heap.size + 1) 3 i0 (.int .i64 0) 1 8 Try.underlying29 hi hz0 hz1 hz2 rfl (by decide) u5 (F k).length (encI (F k)) rfl (own_ext HO.out.1 ((Ext.refl _).alloc _)) ⟨wr.heap.size, 0, none⟩ 1 1 [.int .i64 (k : Int)] rfl rfl (news_new wr #[.int .i64 (k : Int)] 3) (enc_one _) (by unfold maxLen; omega) (by omega) (by first | (simp; done) | (simp; omega)) ?_; intro v' w4 hown4 hgrow4 hnil hloc))
              have ho4 : w4.ownsRow (w.heap.size + 1) 3 1 v' (F (k + 1)).length (encI (F (k + 1))) := by
                rw [HP.out, encI_append, List.length_append]
                exact hown4
              have HO4 := hide (HO.out.app ho4 hgrow4 hloc)
              clear ho4 hown4 hgrow4 hnil hloc bS shk q1 q2 z2
              go_roundw
              case rel => exact ⟨k + 1, by omega, by go_num, HO4⟩
              case measure => simp [intOf]; omega
            | false =>
              have HP := hide (HNN.out HPP.out)
              clear HYY HNN HPP
              go_wp2_with (go_at_call 98; refine HC2.out.mono ?_; rintro e w5 ⟨rfl, rfl⟩)
              clear bS shk q1 q2 z2
              go_roundw
              case rel => exact ⟨k + 1, by omega, by go_num, hide (by rw [HP.out]; exact HO.out)⟩
              case measure => simp [intOf]; omega
      · obtain rfl : k = n := by omega
        obtain ⟨A', c4, e1, _⟩ := own_slice HO.out.1
        subst e1
        go_wp2_with fail
        go_ret
        have ho := HO.out
        rw [HFV.out] at ho
        exact ⟨A', c4, by rw [HFV.out]; rfl, own_mono ho.1 (by omega), ho.ext0 HE3.out (by omega)⟩
end Go.Proofs.Ytkgbilbicdiadaa
