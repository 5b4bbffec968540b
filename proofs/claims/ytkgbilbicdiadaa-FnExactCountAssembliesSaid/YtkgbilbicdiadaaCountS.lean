/- The walk of the reference's CountAssemblies. No condition but that a list has at most 1048576 elements. -/
import Derived.Test.YtkgbilbicdiadaaCountA
set_option linter.unusedSimpArgs false
set_option linter.unusedVariables false
namespace Go.Proofs.Ytkgbilbicdiadaa
open Go.RowKit

theorem panes_num {n o : Nat} (ho : o < n) : panesN n o + 2 ^ o + 1 = 2 ^ n := by
  have hb : (2 ^ n - 1).testBit o = true := by rw [Nat.testBit_two_pow_sub_one]; simp [ho]
  have h1 := bit_sub hb
  have h2 := sub_le h1
  have h3 : panesN n o = 2 ^ n - 1 - 2 ^ o := by
    unfold panesN
    rw [Nat.and_comm, h1, xor_sub h1]
  have := Nat.two_pow_pos n
  omega
theorem term_near {b : Nat → Nat → Bool} {P n s k : Nat} (hb : s.testBit k = true) : term b P n s k = if nearI b s k n = true then ways b P n (s - 2 ^ k) else 0 := by
  unfold term
  rw [nearI_near hb]
  simp [hb]
theorem near_start (b : Nat → Nat → Bool) (s k : Nat) : nearI b s k 0 = ((s : Int) == ((2 ^ k : Nat) : Int)) := by
  rw [int_beq]
  rfl
theorem matTop {w : World} {B U hd n : Nat} {Th Te : TypeId} {f : Nat → Nat → Bool} (h : MatB w B U hd n Th Te f) : MatB w B w.heap.size hd n Th Te f := by
  obtain ⟨G, hs, h1, h0, h2, h3, h5, h6⟩ := h
  exact ⟨G, hs, h1, h2.lt, h2, h3, fun i hi => ⟨(h5 i hi).1, (h5 i hi).2.1, (h5 i hi).2.2.2.2.lt, (h5 i hi).2.2.2⟩, h6⟩
theorem matSetk {w : World} {B U hd n k i : Nat} {u : Value} {Th Te : TypeId} {f : Nat → Nat → Bool} (h : MatB w B U hd n Th Te f) (hk : U ≤ k) : MatB (w.setCell ⟨k, i, none⟩ u) B U hd n Th Te f := by
  obtain ⟨G, hs, h1, h0, h2, h3, h5, h6⟩ := h
  exact ⟨G, hs, h1, h0, h2.other (by omega) _, h3, fun j hj => ⟨(h5 j hj).1, (h5 j hj).2.1, (h5 j hj).2.2.1, (h5 j hj).2.2.2.1, (h5 j hj).2.2.2.2.other (by have := (h5 j hj).2.2.1; omega) _⟩, h6⟩
theorem wrap_small {q : Nat} (h : q < 1024) : IntKind.i64.wrap (q : Int) = (q : Int) := by rw [IntKind.wrap_i64]; omega
theorem wrap_sum {a b : Nat} (ha : a ≤ 10 ^ 10) (hb : b ≤ 10 ^ 10) : IntKind.i64.wrap ((a : Int) + (b : Int)) = (a : Int) + (b : Int) := by rw [IntKind.wrap_i64]; omega
set_option maxRecDepth 20000 in
set_option maxHeartbeats 4000000 in
theorem sCountAssemblies_any (N E : List P2) (A B : Option Addr) (c c' : Nat) (w : World) (hw : WR w N E A B c c') :
    Calls Try.prog 37 #[.agg #[.slice A N.length c, .slice B E.length c']] w fun e w' => e = .returned (.int .i64 (countA N E)) ∧ Ext w w' := by
  obtain ⟨i0, hi, hz0, hz1, hz2⟩ := info_parts int_info
  have HW := hide hw
  have HFO := hide (fun (W : World) (hE : Ext w W) => (sFacesOf_any N E A B c c' W (hw.ext hE)).mono (R' := fun e w' => ∃ A2 c2, e = .returned (.slice A2 (fcs N E).length c2) ∧ Ext W w') (by rintro e w' ⟨A2, c2, h1, _, _, h2⟩; exact ⟨A2, c2, h1, h2⟩))
  have hy := countA_yes (N := N) (E := E)
  have hno := countA_no (N := N) (E := E)
  obtain ⟨v, hv⟩ : ∃ v, countA N E = v := ⟨_, rfl⟩
  rw [hv] at hy hno ⊢
  clear hw hv
  
  go_enter Try.func37, Try.ntmps37
  go_wp2_with fail
  obtain ⟨w0, hw⟩ : ∃ w1, w1 = w.alloc (Obj.cells #[Value.slice A N.length c, Value.slice B E.length c'] 27) := ⟨_, rfl⟩; rw [← hw]; have kT : Tr [(w.heap.size, [.slice A N.length c, .slice B E.length c'])] w w0 := (by rw [hw]; exact ⟨by (first | (simp [Bx, CellsAt, go_sem, *]; done) | (simp [Bx, CellsAt, go_sem, *]; omega)), by (repeat (first | exact kE | exact Ext.refl _ | apply Ext.alloc | apply Ext.drewN | apply Ext.drew | apply Ext.set0 | apply Ext.set1 | apply Ext.set2 | apply Ext.set3 | (refine Ext.setk ?_ (by omega) _) | (apply Ext.snoc; assumption)))⟩); have HT := hide kT; clear hw kT; have kT := HT.out; simp only [Tr, Bx, CellsAt, Nat.reduceAdd, Nat.zero_add, and_true] at kT; obtain ⟨⟨kz0, kf0, kc0_0, kc0_1⟩, kE⟩ := kT
  refine (HFO.out _ kE).mono ?_
  rintro e w2 ⟨A2, c2, rfl, hb2⟩
  have HT' := hide (HT.out.ext hb2)
  clear hb2 HT
  have HT := HT'
  clear HT'
  clear kz0 kf0 kc0_0 kc0_1 kE
  have kT := HT.out; simp only [Tr, Bx, CellsAt, Nat.reduceAdd, Nat.zero_add, and_true] at kT; obtain ⟨⟨kz0, kf0, kc0_0, kc0_1⟩, kE⟩ := kT
  have HW2 := hide kE
  by_cases h0 : (fcs N E).length = 0
  · have HV := hide (show v = -1 from hno (by omega))
    clear hno hy
    go_wp2_with fail
    go_ret
    exact ⟨ret_int HV.out.symm, HW2.out⟩
  have hwh := fcs_whole (Nat.pos_of_ne_zero h0)
  obtain ⟨hoe, hon⟩ := outer_nat hwh
  have hl40 := fcs_len (N := N) (E := E)
  have HN := hide (l13Beside_any N E A B c c' w2 (HW.out.ext kE) hwh)
  have HP := hide (fun (W : World) (hE : Ext w W) => sOuterFace_any N E A B c c' W (HW.out.ext hE))
  rw [hoe] at HP
  obtain ⟨n, hn⟩ : ∃ n, (fcs N E).length = n := ⟨_, rfl⟩
  obtain ⟨o, ho⟩ : ∃ o, oN N E = o := ⟨_, rfl⟩
  obtain ⟨b, hbb⟩ : ∃ b, besTo (sd N E) E.length = b := ⟨_, rfl⟩
  rw [hn] at hon hl40 HN hy hno h0
  rw [ho] at hon HP hy
  rw [hbb] at HN hy
  rw [hn]
  clear hwh hn ho hbb hoe HFO
  have t0 : ((n : Int) == 0) = false := by simp; omega
  have t0' : (n == 0) = false := by simp; omega
  clear h0
  by_cases h10 : 10 < n
  · have HV := hide (show v = -1 from hno (by omega))
    have t2 : decide ((n : Int) > 10) = true := decide_eq_true (by omega)
    have t3 : decide (n > 10) = true := decide_eq_true (by omega)
    clear hno hy
    go_wp2_with fail
    go_ret
    exact ⟨ret_int HV.out.symm, HW2.out⟩
  have t2 : decide ((n : Int) > 10) = false := decide_eq_false (by omega)
  have t3 : decide (n > 10) = false := decide_eq_false (by omega)
  have h10' : n ≤ 10 := by omega
  have hpn := panes_num hon
  have h2o := Nat.two_pow_pos o
  obtain ⟨p, hp⟩ : ∃ p, panesN n o = p := ⟨_, rfl⟩
  rw [hp] at hy hpn
  have HV := hide (show v = (ways b p n p : Nat) from hy (by omega))
  have h1024 : 2 ^ n ≤ 2 ^ 10 := Nat.pow_le_pow_right (by decide) h10'
  have HMS := hide (fun s k t (hk : k ≤ n) (hs : s < 2 ^ n) (ht : t < 2 ^ n) => ref_small (b := b) (P := p) h10' hk hs ht)
  have HWS := hide (fun t (ht : t < 2 ^ n) => ways_small (b := b) (P := p) h10' ht)
  have sh := shl_one (show n < 62 by omega)
  have sho := shl_one (show o < 62 by omega)
  rw [← wrap64_eq] at sh sho
  obtain ⟨M, hM⟩ : ∃ M, 2 ^ n = M := ⟨_, rfl⟩
  obtain ⟨O, hO⟩ : ∃ O, 2 ^ o = O := ⟨_, rfl⟩
  have hMz : 0 < M := by rw [← hM]; exact Nat.two_pow_pos n
  rw [hM] at hpn h1024 HMS HWS sh
  rw [hO] at hpn sho h2o
  have hM10 : M ≤ 1024 := h1024
  have hpM : p < M := by rw [← hpn]; exact Nat.lt_succ_of_le (Nat.le_add_right _ _)
  have HMM := hide hM
  have HPN := hide hpn
  clear hno hy hM h1024 hp h10 hO hpn
  go_wp2_with fail
  refine HN.out.mono ?_
  rintro e w6 ⟨hd, c6, U, rfl, hM, hb6⟩
  have HM := hide hM
  have HT' := hide (HT.out.ext hb6)
  clear hM hb6 HT HN
  have HT := HT'
  clear HT'
  clear kz0 kf0 kc0_0 kc0_1 kE
  have kT := HT.out; simp only [Tr, Bx, CellsAt, Nat.reduceAdd, Nat.zero_add, and_true] at kT; obtain ⟨⟨kz0, kf0, kc0_0, kc0_1⟩, kE⟩ := kT
  go_wp2_with fail
  refine (HP.out _ kE).mono ?_
  rintro e w5 ⟨rfl, hb5⟩
  have HM5 := hide (HM.out.ext hb5)
  have HE5 := hide (kE.trans hb5)
  clear HM HP hb5
  clear kz0 kf0 kc0_0 kc0_1 kE
  clear HT
  go_wp2_with (at_make; refine wpList_make_full _ rfl _ _ 29 rfl w5.heap.size 3 i0 (.int .i64 0) 1 Try.underlying29 hi hz0 hz1 .i64 .i64 (wrap64 ((2 : Int) ^ n)) (wrap64 ((2 : Int) ^ n)) M rfl rfl sh sh (by rw [hz2]; omega) (by unfold maxLen; omega) (Nat.le_refl _) ?_; intro w7 hown hgrow; rw [made_zeros'] at hown; have HG7 := hide (grown_ext hgrow); have HO7 := hide hown; clear hown hgrow)
  have z1 : IntKind.i64.wrap ((2 : Int) ^ n) = (M : Int) := by rw [← wrap64_eq]; exact sh
  have z2 : IntKind.i64.wrap ((2 : Int) ^ o) = (O : Int) := by rw [← wrap64_eq]; exact sho
  have z3 : IntKind.i64.wrap ((M : Int) - 1) = (M : Int) - 1 := by rw [IntKind.wrap_i64]; omega
  have z4 : IntKind.i64.wrap ((M : Int) - 1 - (O : Int)) = (p : Int) := by
    have hpn := HPN.out
    rw [IntKind.wrap_i64]
    omega
  clear sh sho
  
  refine wp_region_quietE (by kernel_rfl) (by kernel_rfl) ?_; (repeat (refine WQ.step (fun K hK => ?_); have HK := hide hK; clear hK; go_simp; refine HK.out _ ?_; clear HK K)); refine WQ.done ?_; intro w8 hw'; obtain ⟨⟨_, hw8⟩, hw''⟩ := hw'; subst hw''
  clear z1 z2 z3 z4
  have HO8 := hide (own_ext HO7.out hw8)
  have HG8 := hide (HG7.out.trans hw8)
  have HM8 := hide (((matTop HM5.out).ext HG7.out).ext hw8)
  clear hw8 HO7 HG7 HM5
  have c0 := own_cellR HO8.out hMz
  have f0 := HO8.out.frozenAt 0
  go_wp2_with fail
  have hst := (HO8.out.stored 0 (.int .i64 1)).1
  rw [rowOf_set _ _ hMz] at hst
  have HO := hide (show (w8.setCell ⟨w5.heap.size, 0, none⟩ (.int .i64 1)).ownsRow w5.heap.size 3 1 (.slice (some ⟨w5.heap.size, 0, none⟩) M M) M (rowOf M (fun t => ((refT b p n 1 0 t : Nat) : Int))) from by
    refine (congrArg (fun l => World.ownsRow _ _ _ 1 _ M (rowOf M l)) ?_).mp hst
    funext t
    rw [ref_start]
    by_cases h : t = 0 <;> simp [h])
  have HG := hide (HG8.out.setk (k := w5.heap.size) (o := 0) (s := none) (Nat.le_refl _) (.int .i64 1))
  have HM := hide (matSetk (k := w5.heap.size) (i := 0) (u := .int .i64 1) HM8.out (Nat.le_refl _))
  clear hst HO8 HG8 HM8 c0 f0
  obtain ⟨w9, hw9⟩ : ∃ w9, w9 = w8.setCell ⟨w5.heap.size, 0, none⟩ (.int .i64 1) := ⟨_, rfl⟩
  rw [← hw9] at HO HG HM ⊢
  clear hw9
  go_loopw [8] (fun i wr => ∃ s : Nat, 1 ≤ s ∧ s ≤ p + 1 ∧ i = .int .i64 s ∧ Hid (wr.ownsRow w5.heap.size 3 1 (.slice (some ⟨w5.heap.size, 0, none⟩) M M) M (rowOf M (fun t => ((refT b p n s 0 t : Nat) : Int)))) ∧ Hid (MatB wr w2.heap.size w5.heap.size hd n 99 4 b) ∧ Hid (Ext w5 wr)) (fun i _ => p + 1 - (intOf i).toNat)
  case atStart => exact ⟨1, Nat.le_refl _, Nat.le_add_left _ _, rfl, HO, HM, HG⟩
  case round =>
    clear HO HG HM
    obtain ⟨s, hs1, hs, rfl, HO, HM, HG⟩ := hrel
    by_cases hlt : s ≤ p
    · have hlz : (s : Int) ≤ (p : Int) := by omega
      have hsM : s < M := by omega
      have e1 := i64_and s p (by omega) (by omega)
      obtain ⟨wo, rfl⟩ : ∃ wo : World, wo = wr := ⟨_, rfl⟩
      by_cases hsp : s &&& p = s
      · rw [hsp] at e1
        have HREF := hide (fun t => ref_row (b := b) (n := n) (t := t) (show s ≠ 0 by omega) hsp)
        have HNX := hide (fun (k t : Nat) => ref_next (b := b) (P := p) (n := n) (s := s) (k := k) t)
        have HTN := hide (fun (k : Nat) (h : s.testBit k = true) => term_near (b := b) (P := p) (n := n) h)
        have HTO := hide (fun (k : Nat) (h : s.testBit k = false) => (show term b p n s k = 0 from by unfold term; rw [if_neg (fun q => by rw [h] at q; cases q.1)]))
        clear hsp
        go_wp2_with fail
        go_loopw [9] (fun i wi => ∃ k : Nat, k ≤ n ∧ i = .int .i64 k ∧ Hid (wi.ownsRow w5.heap.size 3 1 (.slice (some ⟨w5.heap.size, 0, none⟩) M M) M (rowOf M (fun t => ((refT b p n s k t : Nat) : Int)))) ∧ Hid (MatB wi w2.heap.size w5.heap.size hd n 99 4 b) ∧ Hid (Ext w5 wi)) (fun i _ => n - (intOf i).toNat)
        case atStart => exact ⟨0, Nat.zero_le _, rfl, HO, HM, HG⟩
        case round =>
          clear HO HG HM
          obtain ⟨k, hk, rfl, HO, HM, HG⟩ := hrel
          by_cases hltk : k < n
          · have hlk : (k : Int) < (n : Int) := by omega
            have bS := bit_at s k (by omega)
            have HNK := hide (HNX.out k)
            cases hbS : s.testBit k with
            | false =>
              have bS' : bits .and .i64 ((s : Int) / 2 ^ k) 1 = 0 := by rw [bS, hbS]; rfl
              have HROWJ := hide (row_same (n := M) (f := refT b p n s (k + 1)) (g := refT b p n s k) (fun t => by rw [HNK.out t, HTO.out k hbS]; by_cases ht : t = s <;> simp [ht]))
              clear bS hbS
              go_wp2_with fail
              go_roundw
              case rel => exact ⟨k + 1, by omega, by go_num, hide (by rw [HROWJ.out]; exact HO.out), HM, HG⟩
              case measure => simp [intOf]; omega
            | true =>
              rw [hbS, if_pos rfl] at bS
              have HBS := hide hbS
              have hle := sub_le (bit_sub hbS)
              have HTE := hide (HTN.out k hbS)
              have HNS := hide (near_start b s k)
              have hpk := Nat.two_pow_pos k
              have shk := shl_one (show k < 62 by omega)
              rw [← wrap64_eq] at shk
              obtain ⟨P, hP⟩ : ∃ P, 2 ^ k = P := ⟨_, rfl⟩
              rw [hP] at hle HTE HNS shk hpk
              clear hbS hP
              go_wp2_with fail
              obtain ⟨wp, rfl⟩ : ∃ wp : World, wp = wr := ⟨_, rfl⟩
              go_loopw [10, 11] (fun r i wn => ∃ j : Nat, j ≤ n ∧ i = .int .i64 j ∧ r = .bool (nearI b s k j) ∧ Hid (wn = wp)) (fun _ i _ => n - (intOf i).toNat)
              case atStart => exact ⟨0, Nat.zero_le _, rfl, by rw [HNS.out], hide rfl⟩
              case round =>
                obtain ⟨j, hj, rfl, rfl, HW⟩ := hrel
                obtain rfl := HW.out
                clear HW
                by_cases hltj : j < n
                · have hlj : (j : Int) < (n : Int) := by omega
                  have HN := hide (show nearI b s k (j + 1) = (nearI b s k j || (decide (j ≠ k) && (s.testBit j && b j k))) from rfl)
                  obtain ⟨v, hv⟩ : ∃ v, nearI b s k j = v := ⟨_, rfl⟩
                  rw [hv] at HN ⊢
                  clear hv
                  cases v with
                  | true =>
                    have HN1 := hide (show nearI b s k (j + 1) = true by rw [HN.out]; rfl)
                    go_wp2_with fail
                    go_roundw
                    case rel => exact ⟨j + 1, by omega, by go_num, by rw [HN1.out], by first | exact hide rfl | exact hide trivial⟩
                    case measure => simp [intOf]; omega
                  | false =>
                    by_cases hjk : j = k
                    · have HN1 := hide (show nearI b s k (j + 1) = false by rw [HN.out, decide_eq_false (by simp [hjk])]; rfl)
                      have q1 : ((j : Int) != (k : Int)) = false := by simp [hjk]
                      have q2 : (j != k) = false := by simp [hjk]
                      clear hjk
                      go_wp2_with fail
                      go_roundw
                      case rel => exact ⟨j + 1, by omega, by go_num, by rw [HN1.out], by first | exact hide rfl | exact hide trivial⟩
                      case measure => simp [intOf]; omega
                    · have q1 : ((j : Int) != (k : Int)) = true := by simp; omega
                      have q2 : (j != k) = true := by simp [hjk]
                      have HJK := hide hjk
                      have bj := bit_at s j (by omega)
                      clear hjk
                      cases hbj : s.testBit j with
                      | false =>
                        have HN1 := hide (show nearI b s k (j + 1) = false by rw [HN.out, hbj]; simp)
                        have bj' : bits .and .i64 ((s : Int) / 2 ^ j) 1 = 0 := by rw [bj, hbj]; rfl
                        clear bj hbj
                        go_wp2_with fail
                        go_roundw
                        case rel => exact ⟨j + 1, by omega, by go_num, by rw [HN1.out], by first | exact hide rfl | exact hide trivial⟩
                        case measure => simp [intOf]; omega
                      | true =>
                        rw [hbj, if_pos rfl] at bj
                        have HN1 := hide (show nearI b s k (j + 1) = b j k by rw [HN.out, hbj, decide_eq_true HJK.out]; simp)
                        obtain ⟨g1, m1, m2, _⟩ := HM.out.at_ hltj hltk
                        obtain ⟨x, hx⟩ : ∃ x, b j k = x := ⟨_, rfl⟩
                        rw [hx] at m2 HN1
                        clear hx hbj
                        go_wp2_with fail
                        clear m1 m2
                        go_roundw
                        case rel => exact ⟨j + 1, by omega, by go_num, by rw [HN1.out], by first | exact hide rfl | exact hide trivial⟩
                        case measure => simp [intOf]; omega
                · have hjn : j = n := by omega
                  rw [hjn]
                  obtain ⟨v, hv⟩ : ∃ v, nearI b s k n = v := ⟨_, rfl⟩
                  rw [hv] at HTE ⊢
                  clear hv hltj
                  cases v with
                  | false =>
                    have HROWJ := hide (row_same (n := M) (f := refT b p n s (k + 1)) (g := refT b p n s k) (fun t => by rw [HNK.out t, HTE.out]; by_cases ht : t = s <;> simp [ht]))
                    clear hjn
                    go_wp2_with fail
                    go_roundw
                    case rel => exact ⟨k + 1, by omega, by go_num, hide (by rw [HROWJ.out]; exact HO.out), HM, HG⟩
                    case measure => simp [intOf]; omega
                  | true =>
                    obtain ⟨q, hq⟩ : ∃ q, s - P = q := ⟨_, rfl⟩
                    have hqs : q < s := by rw [← hq]; exact Nat.sub_lt_of_pos_le hpk hle
                    have hqM : q < M := Nat.lt_trans hqs hsM
                    have hte : term b p n s k = ways b p n q := by rw [← hq]; exact HTE.out
                    have hr2 : refT b p n s k q = ways b p n q := by unfold refT; rw [if_pos hqs]
                    have b1 : refT b p n s k s ≤ 10 ^ 10 := HMS.out s k s hk hsM hsM
                    have b2 : refT b p n s k q ≤ 10 ^ 10 := HMS.out s k q hk hsM hqM
                    have cs := own_cellR HO.out hsM
                    have cq := own_cellR HO.out hqM
                    have fs := HO.out.frozenAt s
                    have HNW := hide (show (fun t => if t = s then ((refT b p n s k s : Nat) : Int) + ((refT b p n s k q : Nat) : Int) else ((refT b p n s k t : Nat) : Int)) = fun t => ((refT b p n s (k + 1) t : Nat) : Int) from by
                      funext t
                      rw [HNK.out t]
                      by_cases ht : t = s
                      · rw [if_pos ht, if_pos ht, hte, hr2]
                        omega
                      · rw [if_neg ht, if_neg ht])
                    have HST := hide (fun u : Int => (HO.out.stored s (.int .i64 u)).1)
                    obtain ⟨d1, hd1⟩ : ∃ d, refT b p n s k s = d := ⟨_, rfl⟩
                    obtain ⟨d2, hd2⟩ : ∃ d, refT b p n s k q = d := ⟨_, rfl⟩
                    rw [hd1] at b1 cs HNW
                    rw [hd2] at b2 cq HNW
                    have hsz : (s : Int) < (M : Int) := by omega
                    have hqz : (q : Int) < (M : Int) := by omega
                    have z1 : IntKind.i64.wrap ((2 : Int) ^ k) = (P : Int) := by rw [← wrap64_eq]; exact shk
                    have z2 : IntKind.i64.wrap ((s : Int) - (P : Int)) = (q : Int) := by
                      have e : (s : Int) - (P : Int) = (q : Int) := by rw [← hq, Int.ofNat_sub hle]
                      rw [e]
                      exact wrap_small (Nat.lt_of_lt_of_le hqM hM10)
                    have z3 : IntKind.i64.wrap ((d1 : Int) + (d2 : Int)) = (d1 : Int) + (d2 : Int) := wrap_sum b1 b2
                    clear hd1 hd2 hr2 hte hjn b1 b2 hq shk
                    go_wp2_with fail
                    go_big_region
                    have hst := HST.out ((d1 : Int) + (d2 : Int))
                    rw [rowOf_set _ _ hsM, HNW.out] at hst
                    have HOJ := hide (own_ext hst ((Ext.refl _).drew))
                    have HGJ := hide ((HG.out.setk (k := w5.heap.size) (o := s) (s := none) (Nat.le_refl _) (.int .i64 ((d1 : Int) + (d2 : Int)))).drew)
                    have HMJ := hide ((matSetk (k := w5.heap.size) (i := s) (u := .int .i64 ((d1 : Int) + (d2 : Int))) HM.out (Nat.le_refl _)).ext ((Ext.refl _).drew))
                    clear hst cs cq fs HO HG HM HST z1 z2 z3
                    obtain ⟨w10, hw10⟩ : ∃ w10, w10 = (wr.setCell ⟨w5.heap.size, s, none⟩ (.int .i64 ((d1 : Int) + (d2 : Int)))).drew := ⟨_, rfl⟩
                    rw [← hw10] at HOJ HGJ HMJ ⊢
                    clear hw10
                    go_wp2_with fail
                    go_roundw
                    case rel => exact ⟨k + 1, by omega, by go_num, HOJ, HMJ, HGJ⟩
                    case measure => simp [intOf]; omega
          · obtain rfl : k = n := by omega
            go_wp2_with fail
            go_roundw
            case rel => exact ⟨s + 1, by omega, by omega, by go_num, hide (by rw [← row_same HREF.out]; exact HO.out), HM, HG⟩
            case measure => simp [intOf]; omega
      · have HSK := hide (fun t => ref_skip (b := b) (n := n) (t := t) (show s ≠ 0 by omega) hsp)
        obtain ⟨q, hq⟩ : ∃ q, s &&& p = q := ⟨_, rfl⟩
        rw [hq] at e1 hsp
        have q1 : ((q : Int) == (s : Int)) = false := by simp; omega
        have q2 : (q == s) = false := by simp [hsp]
        have hn0 : (0 : Int) < (n : Int) := by omega
        clear hq hsp
        go_wp2_with fail
        go_loopw [9] (fun i wi => i = .int .i64 0 ∧ Hid (wi = wo)) (fun _ _ => 0)
        case atStart => exact ⟨rfl, hide rfl⟩
        case round =>
          obtain ⟨rfl, HW⟩ := hrel
          obtain rfl := HW.out
          go_wp2_with fail
          go_roundw
          case rel => exact ⟨s + 1, by omega, by omega, by go_num, hide (by rw [← row_same HSK.out]; exact HO.out), HM, HG⟩
          case measure => simp [intOf]; omega
    · obtain rfl : s = p + 1 := by omega
      have cp := own_cellR HO.out hpM
      rw [show refT b p n (p + 1) 0 p = ways b p n p from by unfold refT; rw [if_pos (by omega)]] at cp
      have hpz : (p : Int) < (M : Int) := by omega
      have hlz : ¬ ((p + 1 : Nat) : Int) ≤ (p : Int) := by omega
      go_wp2_with fail
      go_ret
      exact ⟨ret_int (by rw [HV.out]), HE5.out.trans HG.out⟩
end Go.Proofs.Ytkgbilbicdiadaa
