/- Words and walks for the law FnMatches, a part of them. No condition but that the arguments lie in memory. -/
import Derived.Test.YtabgcpoaepafjaaGreatU2
import Derived.Test.YtabgcpoaepafjaaGreatU3
import Derived.Test.YtabgcpoaepafjaaGreatU9
import Derived.Test.YtabgcpoaepafjaaGreatU10
set_option linter.unusedVariables false
set_option linter.unusedSimpArgs false
namespace Go.Proofs.YtabgcpoaepafjaaGreat
open Go.RowKit
theorem WinOk.lead_nat {N E : List P2} (h : WinOk N E) {k : Nat} (hk : k < E.length) : ∃ f t : Nat, at2 E k = ((f : Int), (t : Int)) ∧ f < N.length ∧ t < N.length := by
  have h1 := h.lead_at hk
  obtain ⟨f, hf⟩ := Int.eq_ofNat_of_zero_le h1.1
  obtain ⟨t, ht⟩ := Int.eq_ofNat_of_zero_le h1.2.2.1
  exact ⟨f, t, Prod.ext hf ht, by omega, by omega⟩
theorem WinOk.ends_lt {N E : List P2} (h : WinOk N E) : ∀ j : Nat, j < E.length → (at2 E j).1.toNat < N.length ∧ (at2 E j).2.toNat < N.length := fun j hj => by
  have h1 := h.lead_at hj
  omega
theorem shl_one {f : Nat} (hf : f < 62) : IntKind.i64.wrap ((2 : Int) ^ f) = ((2 ^ f : Nat) : Int) := by
  have e : ((2 : Int) ^ f) = ((2 ^ f : Nat) : Int) := by push_cast; rfl
  rw [e]
  exact wraps_i64 _ (Int.natCast_nonneg _) (by have := Nat.pow_lt_pow_right (show 1 < 2 by decide) hf; omega)
theorem or_two {u f t : Nat} (hu : u < 2 ^ 60) (hf : f < 60) (ht : t < 60) : bits .or .i64 (u : Int) (bits .or .i64 (IntKind.i64.wrap ((2 : Int) ^ f)) (IntKind.i64.wrap ((2 : Int) ^ t))) = ((u ||| (2 ^ f ||| 2 ^ t) : Nat) : Int) := by
  have h1 : 2 ^ f < 2 ^ 60 := Nat.pow_lt_pow_right (by decide) hf
  have h2 : 2 ^ t < 2 ^ 60 := Nat.pow_lt_pow_right (by decide) ht
  rw [shl_one (by omega), shl_one (by omega), i64_or _ _ (by omega) (by omega), i64_or _ _ (by omega) (Nat.lt_of_lt_of_le (Nat.or_lt_two_pow h1 h2) (by decide))]
set_option maxRecDepth 20000 in
set_option maxHeartbeats 4000000 in
theorem partOf_any (N E : List P2) (A B : Option Addr) (c c' : Nat) (w : World) (hw : WR w N E A B c c') (hok : WinOk N E) :
    Calls Tryz.prog 116 #[.agg #[.slice A N.length c, .slice B E.length c'], .int .i64 0] w fun e w' => ∃ A2 c2, e = .returned (.slice A2 (memN (it (spreadTo E E.length) N.length 1) N.length).length c2) ∧ Ext w w' := by
  have HW := hide hw
  have HK := hide hok
  have hn := hok.n
  have hm := hok.m
  have hsp := spread_closing hok.ends_lt
  have hs := fun i => hsp.it_lt (show 1 < 2 ^ N.length from Nat.one_lt_two_pow (by omega)) i
  have hsp2 := fun s (h : s < 2 ^ N.length) k (hk : k ≤ E.length) => spread_lt h k fun j hj => hok.ends_lt j (by omega)
  have HS := hide hs
  have HSP := hide hsp2
  have hp12 : 2 ^ N.length ≤ 4096 := by have := Nat.pow_le_pow_right (show 0 < 2 by decide) hn.2; simpa using this
  clear hw hok hsp hs hsp2
  
  go_enter Tryz.func116, Tryz.ntmps116
  go_wp2_with fail
  obtain ⟨w0, hw⟩ : ∃ w1, w1 = w.alloc (Obj.cells #[Value.slice A N.length c, Value.slice B E.length c'] 27) := ⟨_, rfl⟩; rw [← hw]; have kT : Tr [(w.heap.size, [.slice A N.length c, .slice B E.length c'])] w w0 := (by rw [hw]; exact ⟨by (first | (simp [Bx, CellsAt, go_sem, *]; done) | (simp [Bx, CellsAt, go_sem, *]; omega)), by (repeat (first | exact kE | exact Ext.refl _ | apply Ext.alloc | apply Ext.drewN | apply Ext.drew | apply Ext.set0 | apply Ext.set1 | apply Ext.set2 | apply Ext.set3 | (refine Ext.setk ?_ (by omega) _) | (apply Ext.snoc; assumption)))⟩); have HT := hide kT; clear hw kT; have kT := HT.out; simp only [Tr, Bx, CellsAt, Nat.reduceAdd, Nat.zero_add, and_true] at kT; obtain ⟨⟨kz0, kf0, kc0_0, kc0_1⟩, kE⟩ := kT
  clear kz0 kf0 kc0_0 kc0_1 kE
  go_loopw [5, 13] (fun v i wr => ∃ k : Nat, k ≤ N.length ∧ i = .int .i64 k ∧ v = .int .i64 (it (spreadTo E E.length) k 1 : Nat) ∧ Hid (Ext w0 wr)) (fun _ i _ => N.length - (intOf i).toNat)
  case atStart => exact ⟨0, Nat.zero_le _, rfl, rfl, hide (Ext.refl _)⟩
  case round =>
    obtain ⟨k, hk, rfl, rfl, HE⟩ := hrel
    have hE := HE.out
    have HT := hide (HT.out.ext hE); clear hE; have kT := HT.out; simp only [Tr, Bx, CellsAt, Nat.reduceAdd, Nat.zero_add, and_true] at kT; obtain ⟨⟨kz0, kf0, kc0_0, kc0_1⟩, kE⟩ := kT
    by_cases hlt : k < N.length
    · have hlz : (k : Int) < (N.length : Int) := by omega
      have hsk := HS.out k
      have HI := hide (show it (spreadTo E E.length) (k + 1) 1 = spreadTo E E.length (it (spreadTo E E.length) k 1) from rfl)
      obtain ⟨s, hs⟩ : ∃ s, it (spreadTo E E.length) k 1 = s := ⟨_, rfl⟩
      rw [hs] at hsk HI ⊢
      clear hs
      have HSK := hide hsk
      clear hsk
      obtain ⟨wo, rfl⟩ : ∃ wo : World, wo = wr := ⟨_, rfl⟩
      go_wp2_with fail
      clear kz0 kf0 kc0_0 kc0_1 kE
      go_loopw [5, 18] (fun v i wi => ∃ j : Nat, j ≤ E.length ∧ i = .int .i64 j ∧ v = .int .i64 (spreadTo E j s : Nat) ∧ Hid (Ext wo wi)) (fun _ i _ => E.length - (intOf i).toNat)
      case atStart => exact ⟨0, Nat.zero_le _, rfl, rfl, hide (Ext.refl _)⟩
      case round =>
        obtain ⟨j, hj, rfl, rfl, HE2⟩ := hrel
        have hE := HE2.out
        have HT := hide (HT.out.ext hE); clear hE; have kT := HT.out; simp only [Tr, Bx, CellsAt, Nat.reduceAdd, Nat.zero_add, and_true] at kT; obtain ⟨⟨kz0, kf0, kc0_0, kc0_1⟩, kE⟩ := kT
        by_cases hlt2 : j < E.length
        · obtain ⟨b, off, rfl, hb, e0, e1⟩ := R2.at_ (HW.out.hs.ext kE) hlt2
          obtain ⟨f, t, hft, hf, ht⟩ := HK.out.lead_nat hlt2
          rw [at2_eq hlt2] at hft
          have HFT := hide (show at2 E j = ((f : Int), (t : Int)) by rw [at2_eq hlt2, hft])
          rw [hft] at e0 e1
          dsimp only at e0 e1
          clear hft
          have y2 : (j : Int) < (E.length : Int) := by omega
          have hu := HSP.out s HSK.out j hj
          have HN := hide (show spreadTo E (j + 1) s = if (spreadTo E j s).testBit f = true ∨ (spreadTo E j s).testBit t = true then spreadTo E j s ||| (2 ^ f ||| 2 ^ t) else spreadTo E j s by simp [spreadTo, HFT.out])
          obtain ⟨u, hu'⟩ : ∃ u, spreadTo E j s = u := ⟨_, rfl⟩
          rw [hu'] at HN hu ⊢
          clear hu'
          have hu62 : u < 2 ^ 62 := by omega
          have b1 := bit_at u f hu62
          have b2 := bit_at u t hu62
          
          cases hbf : u.testBit f with
          | true =>
            rw [hbf, if_pos rfl] at b1
            have HBF := hide hbf
            clear hbf b2
            go_wp2_with fail
            obtain ⟨w2, hw⟩ : ∃ w1, w1 = wr.alloc (Obj.cells #[Value.int IntKind.i64 (f : Int), Value.int IntKind.i64 (t : Int)] 110) := ⟨_, rfl⟩; rw [← hw]; have Hw2 := hide (show Ext wr w2 from (by (rw [hw]; (try clear kE); repeat (first | exact kE | exact Ext.refl _ | apply Ext.alloc | apply Ext.drewN | apply Ext.drew | apply Ext.set0 | apply Ext.set1 | apply Ext.set2 | apply Ext.set3 | (refine Ext.setk ?_ (by omega) _) | (apply Ext.snoc; assumption))))); have HT := hide (HT.out.more Hw2.out (wr.heap.size) [.int .i64 (f : Int), .int .i64 (t : Int)] (by (rw [hw]; first | (simp [CellsAt, go_sem, *]; done) | (simp [CellsAt, go_sem, *]; omega)))); have Zw2 := hide (congrArg (fun z : World => z.heap.size) hw); clear hw kz0 kf0 kc0_0 kc0_1 kE; have kT := HT.out; simp only [Tr, Bx, CellsAt, Nat.reduceAdd, Nat.zero_add, and_true] at kT; obtain ⟨⟨⟨kz0, kf0, kc0_0, kc0_1⟩, ⟨kz1, kf1, kc1_0, kc1_1⟩⟩, kE⟩ := kT
            have kq0_0 := ExtBy.cell (W := w2) kz0 kc0_0; have kq0_1 := ExtBy.cell (W := w2) kz0 kc0_1; have kq1_0 := ExtBy.cell (W := w2) kz1 kc1_0; have kq1_1 := ExtBy.cell (W := w2) kz1 kc1_1; refine wp_region_quietE (by kernel_rfl) (by kernel_rfl) ?_; (repeat (refine WQ.step (fun K hK => ?_); have HK := hide hK; clear hK; go_simp; refine HK.out _ ?_; clear HK K)); refine WQ.done ?_; intro w3 hw'; obtain ⟨⟨_, hw3⟩, hw''⟩ := hw'; subst hw''; clear kq0_0 kq0_1 kq1_0 kq1_1; have HT := hide (HT.out.ext hw3); have Hw3 := hide hw3; clear hw3 kz0 kf0 kc0_0 kc0_1 kz1 kf1 kc1_0 kc1_1 kE; have kT := HT.out; simp only [Tr, Bx, CellsAt, Nat.reduceAdd, Nat.zero_add, and_true] at kT; obtain ⟨⟨⟨kz0, kf0, kc0_0, kc0_1⟩, ⟨kz1, kf1, kc1_0, kc1_1⟩⟩, kE⟩ := kT
            go_wp2_with fail
            have HV := hide (show bits .or .i64 (u : Int) (bits .or .i64 (IntKind.i64.wrap ((2 : Int) ^ f)) (IntKind.i64.wrap ((2 : Int) ^ t))) = (spreadTo E (j + 1) s : Nat) by rw [HN.out, if_pos (.inl HBF.out)]; exact or_two (by omega) (by omega) (by omega))
            have hE5 := hide (HE2.out.trans (Hw2.out.trans Hw3.out))
            go_roundw
            case rel => exact ⟨j + 1, by omega, by go_num, by rw [HV.out], hE5⟩
            case measure => simp [intOf]; omega
          | false =>
            have b1' : bits .and .i64 ((u : Int) / 2 ^ f) 1 = 0 := by rw [b1, hbf]; rfl
            clear b1
            have HBF := hide hbf
            clear hbf
            cases hbt : u.testBit t with
            | true =>
              rw [hbt, if_pos rfl] at b2
              have HBT := hide hbt
              clear hbt
              
              go_wp2_with fail
              obtain ⟨w2, hw⟩ : ∃ w1, w1 = wr.alloc (Obj.cells #[Value.int IntKind.i64 (f : Int), Value.int IntKind.i64 (t : Int)] 110) := ⟨_, rfl⟩; rw [← hw]; have Hw2 := hide (show Ext wr w2 from (by (rw [hw]; (try clear kE); repeat (first | exact kE | exact Ext.refl _ | apply Ext.alloc | apply Ext.drewN | apply Ext.drew | apply Ext.set0 | apply Ext.set1 | apply Ext.set2 | apply Ext.set3 | (refine Ext.setk ?_ (by omega) _) | (apply Ext.snoc; assumption))))); have HT := hide (HT.out.more Hw2.out (wr.heap.size) [.int .i64 (f : Int), .int .i64 (t : Int)] (by (rw [hw]; first | (simp [CellsAt, go_sem, *]; done) | (simp [CellsAt, go_sem, *]; omega)))); have Zw2 := hide (congrArg (fun z : World => z.heap.size) hw); clear hw kz0 kf0 kc0_0 kc0_1 kE; have kT := HT.out; simp only [Tr, Bx, CellsAt, Nat.reduceAdd, Nat.zero_add, and_true] at kT; obtain ⟨⟨⟨kz0, kf0, kc0_0, kc0_1⟩, ⟨kz1, kf1, kc1_0, kc1_1⟩⟩, kE⟩ := kT
              have kq0_0 := ExtBy.cell (W := w2) kz0 kc0_0; have kq0_1 := ExtBy.cell (W := w2) kz0 kc0_1; have kq1_0 := ExtBy.cell (W := w2) kz1 kc1_0; have kq1_1 := ExtBy.cell (W := w2) kz1 kc1_1; refine wp_region_quietE (by kernel_rfl) (by kernel_rfl) ?_; (repeat (refine WQ.step (fun K hK => ?_); have HK := hide hK; clear hK; go_simp; refine HK.out _ ?_; clear HK K)); refine WQ.done ?_; intro w3 hw'; obtain ⟨⟨_, hw3⟩, hw''⟩ := hw'; subst hw''; clear kq0_0 kq0_1 kq1_0 kq1_1; have HT := hide (HT.out.ext hw3); have Hw3 := hide hw3; clear hw3 kz0 kf0 kc0_0 kc0_1 kz1 kf1 kc1_0 kc1_1 kE; have kT := HT.out; simp only [Tr, Bx, CellsAt, Nat.reduceAdd, Nat.zero_add, and_true] at kT; obtain ⟨⟨⟨kz0, kf0, kc0_0, kc0_1⟩, ⟨kz1, kf1, kc1_0, kc1_1⟩⟩, kE⟩ := kT
              go_wp2_with fail
              have HV := hide (show bits .or .i64 (u : Int) (bits .or .i64 (IntKind.i64.wrap ((2 : Int) ^ f)) (IntKind.i64.wrap ((2 : Int) ^ t))) = (spreadTo E (j + 1) s : Nat) by rw [HN.out, if_pos (.inr HBT.out)]; exact or_two (by omega) (by omega) (by omega))
              have hE5 := hide (HE2.out.trans (Hw2.out.trans Hw3.out))
              go_roundw
              case rel => exact ⟨j + 1, by omega, by go_num, by rw [HV.out], hE5⟩
              case measure => simp [intOf]; omega
            | false =>
              have b2' : bits .and .i64 ((u : Int) / 2 ^ t) 1 = 0 := by rw [b2, hbt]; rfl
              clear b2
              have HBT := hide hbt
              clear hbt
              
              go_wp2_with fail
              obtain ⟨w2, hw⟩ : ∃ w1, w1 = wr.alloc (Obj.cells #[Value.int IntKind.i64 (f : Int), Value.int IntKind.i64 (t : Int)] 110) := ⟨_, rfl⟩; rw [← hw]; have Hw2 := hide (show Ext wr w2 from (by (rw [hw]; (try clear kE); repeat (first | exact kE | exact Ext.refl _ | apply Ext.alloc | apply Ext.drewN | apply Ext.drew | apply Ext.set0 | apply Ext.set1 | apply Ext.set2 | apply Ext.set3 | (refine Ext.setk ?_ (by omega) _) | (apply Ext.snoc; assumption))))); have HT := hide (HT.out.more Hw2.out (wr.heap.size) [.int .i64 (f : Int), .int .i64 (t : Int)] (by (rw [hw]; first | (simp [CellsAt, go_sem, *]; done) | (simp [CellsAt, go_sem, *]; omega)))); have Zw2 := hide (congrArg (fun z : World => z.heap.size) hw); clear hw kz0 kf0 kc0_0 kc0_1 kE; have kT := HT.out; simp only [Tr, Bx, CellsAt, Nat.reduceAdd, Nat.zero_add, and_true] at kT; obtain ⟨⟨⟨kz0, kf0, kc0_0, kc0_1⟩, ⟨kz1, kf1, kc1_0, kc1_1⟩⟩, kE⟩ := kT
              have HV := hide (show (spreadTo E (j + 1) s : Nat) = u by rw [HN.out, if_neg (by rw [HBF.out, HBT.out]; simp)])
              have hE5 := hide (HE2.out.trans Hw2.out)
              go_roundw
              case rel => exact ⟨j + 1, by omega, by go_num, by rw [HV.out], hE5⟩
              case measure => simp [intOf]; omega
        · 
          obtain rfl : j = E.length := by omega
          go_wp2_with fail
          have hE5 := hide (HE.out.trans HE2.out)
          go_roundw
          case rel => exact ⟨k + 1, by omega, by go_num, by rw [HI.out], hE5⟩
          case measure => simp [intOf]; omega
    · obtain rfl : k = N.length := by omega
      have HM := membersOf_any (it (spreadTo E E.length) N.length 1) N.length wr (HS.out _) (by omega)
      rw [memI_length] at HM
      go_wp2_with (go_at_call 47; refine HM.mono ?_; rintro e w5 ⟨A2, c2, rfl, _, hb5⟩)
      have hE5 := hide (kE.trans hb5)
      go_ret
      exact ⟨A2, c2, rfl, hE5.out⟩
end Go.Proofs.YtabgcpoaepafjaaGreat
namespace Go.Proofs.YtabgcpoaepafjaaGreat
open Go.RowKit
open Classical in
noncomputable def wholeB (N E : List P2) : Bool := decide (WinOk N E ∧ 0 < E.length ∧ Whole E N.length)
theorem wholeB_iff {N E : List P2} : wholeB N E = true ↔ WinOk N E ∧ 0 < E.length ∧ Whole E N.length := by simp [wholeB]
theorem wholeB_no {N E : List P2} (h : ¬ (WinOk N E ∧ 0 < E.length ∧ Whole E N.length)) : wholeB N E = false := by simp only [wholeB, decide_eq_false_iff_not]; exact h
set_option maxRecDepth 20000 in
set_option maxHeartbeats 4000000 in
theorem IsWhole_any (N E : List P2) (A B : Option Addr) (c c' : Nat) (w : World) (hw : WR w N E A B c c') :
    Calls Tryz.prog 85 #[.agg #[.slice A N.length c, .slice B E.length c']] w fun e w' => e = .returned (.bool (wholeB N E)) ∧ Ext w w' := by
  have hEl := hw.hE
  have hNl := hw.hN
  have HW := hide hw
  clear hw
  
  go_enter Tryz.func85, Tryz.ntmps85
  go_wp2_with fail
  obtain ⟨w0, hw⟩ : ∃ w1, w1 = w.alloc (Obj.cells #[Value.slice A N.length c, Value.slice B E.length c'] 27) := ⟨_, rfl⟩; rw [← hw]; have kT : Tr [(w.heap.size, [.slice A N.length c, .slice B E.length c'])] w w0 := (by rw [hw]; exact ⟨by (first | (simp [Bx, CellsAt, go_sem, *]; done) | (simp [Bx, CellsAt, go_sem, *]; omega)), by (repeat (first | exact kE | exact Ext.refl _ | apply Ext.alloc | apply Ext.drewN | apply Ext.drew | apply Ext.set0 | apply Ext.set1 | apply Ext.set2 | apply Ext.set3 | (refine Ext.setk ?_ (by omega) _) | (apply Ext.snoc; assumption)))⟩); have HT := hide kT; clear hw kT; have kT := HT.out; simp only [Tr, Bx, CellsAt, Nat.reduceAdd, Nat.zero_add, and_true] at kT; obtain ⟨⟨kz0, kf0, kc0_0, kc0_1⟩, kE⟩ := kT
  have HW0 := hide kE
  obtain ⟨v, hv⟩ : ∃ v, windowB N E = v := ⟨_, rfl⟩
  have HC := fun p : ExtBy w0 => WindowOk_any N E A B c c' p.w HW.out.hN HW.out.hE HW.out.hc HW.out.hd (HW.out.hr.ext (HW0.out.trans p.h)) (HW.out.hs.ext (HW0.out.trans p.h))
  rw [hv] at HC
  have HC := hide HC
  have HV := hide hv
  clear hv
  cases v with
  | false =>
    have kq0_0 := ExtBy.cell (W := w0) kz0 kc0_0; have kq0_1 := ExtBy.cell (W := w0) kz0 kc0_1; refine wp_region_quietE (by kernel_rfl) (by kernel_rfl) ?_; (repeat (refine WQ.step (fun K hK => ?_); have HK := hide hK; clear hK; go_simp; refine HK.out _ ?_; clear HK K)); (refine WQ.step (fun K hK => ?_); have HK := hide hK; clear hK; go_simp; apply Exists.intro; refine ⟨fun _ => ?_, HK.out _ ?_⟩; (go_at_call 115; refine extby_of (HC.out _)); clear HK K); (repeat (refine WQ.step (fun K hK => ?_); have HK := hide hK; clear hK; go_simp; refine HK.out _ ?_; clear HK K)); refine WQ.done ?_; intro w3 hw'; obtain ⟨⟨_, hw3⟩, hw''⟩ := hw'; subst hw''; clear kq0_0 kq0_1; have HT := hide (HT.out.ext hw3); have Hw3 := hide hw3; clear hw3 kz0 kf0 kc0_0 kc0_1 kE; have kT := HT.out; simp only [Tr, Bx, CellsAt, Nat.reduceAdd, Nat.zero_add, and_true] at kT; obtain ⟨⟨kz0, kf0, kc0_0, kc0_1⟩, kE⟩ := kT
    go_wp2_with fail
    go_ret
    exact ⟨ret_bool (by rw [wholeB_no]; intro h; have := windowB_iff.2 h.1; rw [HV.out] at this; cases this), HT.out.2⟩
  | true =>
    have HK := hide (windowB_iff.1 HV.out)
    by_cases hm : 0 < E.length
    · have hm' : decide ((E.length : Int) > 0) = true := decide_eq_true (by omega)
      have hm2 : (0 : Int) < (E.length : Int) := by omega
      have hn12 := HK.out.n
      have HP := hide (fun (W : World) (hE : Ext w W) => partOf_any N E A B c c' W (HW.out.ext hE) HK.out)
      have HC2 := hide (show ∀ W, Ext w0 W → Calls Tryz.prog 115 #[.agg #[.slice A N.length c, .slice B E.length c']] W fun x w' => x = .returned (.bool true) ∧ Ext W w' from fun W hE => HC.out ⟨W, hE⟩)
      go_region_held3 (fun w' => (∀ (q o : Nat), q < w0.heap.size → w'.cell? ⟨q, o, none⟩ = w0.cell? ⟨q, o, none⟩) ∧ Ext w0 w') ((apply ExtS; repeat (first | exact kE | exact Ext.refl _ | apply Ext.alloc | apply Ext.drewN | apply Ext.drew | apply Ext.set0 | apply Ext.set1 | apply Ext.set2 | apply Ext.set3 | (refine Ext.setk ?_ (by omega) _) | (apply Ext.snoc; assumption)))) ((first | (go_at_call 115; refine (HC2.out _ (by clear kE; repeat (first | exact kE | exact Ext.refl _ | apply Ext.alloc | apply Ext.drewN | apply Ext.drew | apply Ext.set0 | apply Ext.set1 | apply Ext.set2 | apply Ext.set3 | (refine Ext.setk ?_ (by omega) _) | (apply Ext.snoc; assumption)))).mono ?_; rintro e w3 ⟨rfl, hb3⟩)  |  (go_at_call 116; refine (HP.out _ (HW0.out.trans (by clear kE; repeat (first | exact kE | exact Ext.refl _ | apply Ext.alloc | apply Ext.drewN | apply Ext.drew | apply Ext.set0 | apply Ext.set1 | apply Ext.set2 | apply Ext.set3 | (refine Ext.setk ?_ (by omega) _) | (apply Ext.snoc; assumption))))).mono ?_; rintro e w5 ⟨A2, c2, rfl, hb5⟩)))
      have hE5 := hide (HW0.out.trans (((Ext.refl w0).drew.trans hb3).trans hb5))
      have HS := hide (whole_spread (E := E) (by have := HK.out.n; omega : 0 < N.length) HK.out.ends_lt)
      clear hb3 hb5
      go_wp2_with fail
      go_ret
      refine ⟨ret_bool ?_, hE5.out⟩
      rw [Bool.eq_iff_iff, wholeB_iff, beq_iff_eq]
      constructor
      · intro h; exact ⟨HK.out, hm, HS.out.1 (by omega)⟩
      · rintro ⟨_, _, h⟩; have := HS.out.2 h; omega
    · have hm' : decide ((E.length : Int) > 0) = false := decide_eq_false (by omega)
      have hm2 : decide ((0 : Int) < (E.length : Int)) = false := decide_eq_false (by omega)
      have hm3 : decide (0 < E.length) = false := decide_eq_false hm
      have HM := hide hm
      clear hm
      have kq0_0 := ExtBy.cell (W := w0) kz0 kc0_0; have kq0_1 := ExtBy.cell (W := w0) kz0 kc0_1; refine wp_region_quietE (by kernel_rfl) (by kernel_rfl) ?_; (repeat (refine WQ.step (fun K hK => ?_); have HK := hide hK; clear hK; go_simp; refine HK.out _ ?_; clear HK K)); (refine WQ.step (fun K hK => ?_); have HK := hide hK; clear hK; go_simp; apply Exists.intro; refine ⟨fun _ => ?_, HK.out _ ?_⟩; (go_at_call 115; refine extby_of (HC.out _)); clear HK K); (repeat (refine WQ.step (fun K hK => ?_); have HK := hide hK; clear hK; go_simp; refine HK.out _ ?_; clear HK K)); refine WQ.done ?_; intro w3 hw'; obtain ⟨⟨_, hw3⟩, hw''⟩ := hw'; subst hw''; clear kq0_0 kq0_1; have HT := hide (HT.out.ext hw3); have Hw3 := hide hw3; clear hw3 kz0 kf0 kc0_0 kc0_1 kE; have kT := HT.out; simp only [Tr, Bx, CellsAt, Nat.reduceAdd, Nat.zero_add, and_true] at kT; obtain ⟨⟨kz0, kf0, kc0_0, kc0_1⟩, kE⟩ := kT
      go_wp2_with fail
      go_ret
      exact ⟨ret_bool (by rw [wholeB_no]; intro h; exact HM.out h.2.1), HT.out.2⟩
end Go.Proofs.YtabgcpoaepafjaaGreat
namespace Go.Proofs.YtabgcpoaepafjaaGreat
open Go.RowKit
def midU (L : List Int) (a b : Int) (i : Nat) : List Int := (uniteL L a b).take i ++ L.drop i
theorem uniteL_length (L : List Int) (a b : Int) : (uniteL L a b).length = L.length := by simp [uniteL]
theorem midU_length (L : List Int) (a b : Int) {i : Nat} (h : i ≤ L.length) : (midU L a b i).length = L.length := by
  unfold midU
  rw [List.length_append, List.length_take, List.length_drop, uniteL_length]
  omega
theorem midU_at (L : List Int) (a b : Int) {i : Nat} (h : i < L.length) : (midU L a b i)[i]? = some L[i] := by
  unfold midU
  rw [List.getElem?_append_right (by rw [List.length_take, uniteL_length]; omega), List.length_take, uniteL_length, List.getElem?_drop]
  have : i + (i - min i L.length) = i := by omega
  rw [this]
  simp [h]
theorem midU_next (L : List Int) (a b : Int) {i : Nat} (h : i < L.length) : midU L a b (i + 1) = (midU L a b i).set i (if L[i] = max a b then min a b else L[i]) := by
  have hu : (uniteL L a b)[i]'(by rw [uniteL_length]; exact h) = if L[i] = max a b then min a b else L[i] := by simp [uniteL]
  unfold midU
  rw [List.take_succ_eq_append_getElem (by rw [uniteL_length]; exact h), hu]
  have hl : (List.take i (uniteL L a b)).length = i := by rw [List.length_take, uniteL_length]; omega
  generalize (if L[i] = max a b then min a b else L[i]) = q
  rw [List.set_append, hl, if_neg (Nat.lt_irrefl i), Nat.sub_self, List.drop_eq_getElem_cons h, List.set_cons_zero, List.append_assoc]
  rfl
theorem set_same {l : List Int} {i : Nat} {v : Int} (h : l[i]? = some v) : l.set i v = l := by
  apply List.ext_getElem?
  intro k
  by_cases hk : i = k
  · subst hk
    rw [List.getElem?_set_self (by exact (List.getElem?_eq_some_iff.1 h).1), h]
  · rw [List.getElem?_set_ne hk]
theorem midU_zero (L : List Int) (a b : Int) : midU L a b 0 = L := by simp [midU]
theorem midU_end (L : List Int) (a b : Int) : midU L a b L.length = uniteL L a b := by
  unfold midU
  rw [List.take_of_length_le (by rw [uniteL_length]; exact Nat.le_refl _)]
  simp
theorem own_cellI {w : World} {B g n c k : Nat} {T : TypeId} {L : List Int} {v : Int} (h : w.ownsRow B T 1 (.slice (some ⟨g, 0, none⟩) n c) n (encI L)) (hL : L.length = n) (hk : L[k]? = some v) : w.cell? ⟨g, k, none⟩ = some (.int .i64 v) := by
  have hlt : k < L.length := (List.getElem?_eq_some_iff.1 hk).1
  rw [h.cellAt k (by omega)]
  simp [encI, hk]
theorem encI_set (l : List Int) (i : Nat) (v : Int) : encI (l.set i v) = (encI l).set i (.int .i64 v) := by simp [encI, List.map_set]
set_option maxRecDepth 20000 in
set_option maxHeartbeats 4000000 in
theorem l07Parts_any (N E : List P2) (A B : Option Addr) (c c' : Nat) (w : World) (hw : WR w N E A B c c') (hok : WinOk N E) :
    Calls Tryz.prog 49 #[.agg #[.slice A N.length c, .slice B E.length c']] w fun e w' => ∃ g c2, e = .returned (.slice (some ⟨g, 0, none⟩) N.length c2) ∧ w'.ownsRow w.heap.size 3 1 (.slice (some ⟨g, 0, none⟩) N.length c2) N.length (encI (partsTo E N.length E.length)) ∧ Ext w w' := by
  obtain ⟨i0, hi, hz0, hz1, hz2⟩ := info_parts int_info
  have HW := hide hw
  have HK := hide hok
  have hn := hok.n
  have hm := hok.m
  clear hw hok
  
  go_enter Tryz.func49, Tryz.ntmps49
  go_wp2_with fail
  obtain ⟨w0, hw⟩ : ∃ w1, w1 = w.alloc (Obj.cells #[Value.slice A N.length c, Value.slice B E.length c'] 27) := ⟨_, rfl⟩
  rw [← hw]
  have hsz0 : w0.heap.size = w.heap.size + 1 := by rw [hw]; simp
  have HT := hide (show Tr [(w.heap.size, [.slice A N.length c, .slice B E.length c'])] w w0 from by rw [hw]; exact ⟨by simp [Bx, CellsAt, go_sem, *], by repeat (first | exact kE | exact Ext.refl _ | apply Ext.alloc | apply Ext.drewN | apply Ext.drew | apply Ext.set0 | apply Ext.set1 | apply Ext.set2 | apply Ext.set3 | (refine Ext.setk ?_ (by omega) _) | (apply Ext.snoc; assumption))⟩)
  clear hw
  rw [← hsz0]
  have HSZ := hide hsz0
  clear hsz0
  have kT := HT.out; simp only [Tr, Bx, CellsAt, Nat.reduceAdd, Nat.zero_add, and_true] at kT; obtain ⟨⟨kz0, kf0, kc0_0, kc0_1⟩, kE⟩ := kT
  have HW0 := hide kE
  have HT0 := HT
  clear HT
  clear kz0 kf0 kc0_0 kc0_1 kE
  go_loopw [3, 4] (fun v i wr => ∃ k : Nat, k ≤ N.length ∧ i = .int .i64 k ∧ Hid (wr.ownsRow w0.heap.size 3 1 v k (encI ((List.range k).map fun i : Nat => (i : Int)))) ∧ Hid (Ext w0 wr)) (fun _ i _ => N.length - (intOf i).toNat)
  case atStart => exact ⟨0, Nat.zero_le _, rfl, hide (World.ownsRow_lit w0 #[] 0 (Nat.le_refl _) (Nat.zero_le _) rfl), hide ((Ext.refl _).alloc _)⟩
  case round =>
    obtain ⟨k, hk, rfl, HO, HE⟩ := hrel
    have HT := hide (HT0.out.ext HE.out)
    have kT := HT.out; simp only [Tr, Bx, CellsAt, Nat.reduceAdd, Nat.zero_add, and_true] at kT; obtain ⟨⟨kz0, kf0, kc0_0, kc0_1⟩, kE⟩ := kT
    by_cases hlt : k < N.length
    · have hlz : (k : Int) < (N.length : Int) := by omega
      have hsz3 := HE.out.size
      have HD := hide (show encI ((List.range (k + 1)).map fun i : Nat => (i : Int)) = encI ((List.range k).map fun i : Nat => (i : Int)) ++ [.int .i64 (k : Int)] by rw [List.range_succ, List.map_append, encI_append]; rfl)
      go_wp2_with (at_builtin; refine wpList_append_own _ rfl _ _ 31 rfl w0.heap.size 3 i0 (.int .i64 0) 1 8 Tryz.underlying31 hi hz0 hz1 hz2 rfl (by decide) u3 k (encI ((List.range k).map fun i : Nat => (i : Int))) rfl (own_ext HO.out ((Ext.refl _).alloc _)) ⟨wr.heap.size, 0, none⟩ 1 1 [.int .i64 (k : Int)] rfl rfl (news_new wr #[.int .i64 (k : Int)] 3) (one_cell _) (by unfold maxLen; omega) (by omega) (by first | (simp; done) | (simp; omega)) ?_; intro v' w4 hown4 hgrow4 hnil)
      have E4 := hide (Ext.grown (HE.out.alloc _) hgrow4 (own_base HO.out (Nat.le_refl _)))
      have HO4 := hide hown4
      clear hown4 hgrow4 hnil
      go_roundw
      case rel => exact ⟨k + 1, by omega, by go_num, hide (by rw [HD.out]; exact HO4.out), E4⟩
      case measure => simp [intOf]; omega
    · obtain rfl : k = N.length := by omega
      have hlz : ¬ ((N.length : Nat) : Int) < (N.length : Int) := by omega
      obtain ⟨A0, c2, rfl, hc2, hA0, hA1⟩ := own_slice HO.out
      cases A0 with
      | none => exact absurd (hA0 rfl) (by omega)
      | some a0 =>
        obtain ⟨g, rfl, hgB, _, _⟩ := hA1 a0 rfl
        have HGB := hide hgB
        clear hA0 hA1 HT hgB
        have HO0 := HO
        have HE0 := HE
        obtain ⟨wm, rfl⟩ : ∃ wm : World, wm = wr := ⟨_, rfl⟩
        go_wp2_with fail
        clear kz0 kf0 kc0_0 kc0_1 kE
        go_loopw [5] (fun i wi => ∃ k : Nat, k ≤ E.length ∧ i = .int .i64 k ∧ Hid (wi.ownsRow w0.heap.size 3 1 (.slice (some ⟨g, 0, none⟩) N.length c2) N.length (encI (partsTo E N.length k))) ∧ Hid (Ext w0 wi)) (fun i _ => E.length - (intOf i).toNat)
        case atStart => exact ⟨0, Nat.zero_le _, rfl, HO0, HE0⟩
        case round =>
          clear HO HE HO0 HE0
          obtain ⟨k, hk, rfl, HO, HE⟩ := hrel
          have HT := hide (HT0.out.ext HE.out)
          have kT := HT.out; simp only [Tr, Bx, CellsAt, Nat.reduceAdd, Nat.zero_add, and_true] at kT; obtain ⟨⟨kz0, kf0, kc0_0, kc0_1⟩, kE⟩ := kT
          by_cases hlt : k < E.length
          · obtain ⟨b, off, rfl, hb, e0, e1⟩ := R2.at_ (HW.out.hs.ext kE) hlt
            obtain ⟨f, t, hft, hf, ht⟩ := HK.out.lead_nat hlt
            rw [at2_eq hlt] at hft
            have HFT := hide (show at2 E k = ((f : Int), (t : Int)) by rw [at2_eq hlt, hft])
            rw [hft] at e0 e1
            dsimp only at e0 e1
            clear hft
            have y2 : (k : Int) < (E.length : Int) := by omega
            have y3 : (f : Int) < (N.length : Int) := by omega
            have y4 : (t : Int) < (N.length : Int) := by omega
            have hl := parts_length E N.length k
            have HN := hide (show partsTo E N.length (k + 1) = uniteL (partsTo E N.length k) ((partsTo E N.length k).getD f 0) ((partsTo E N.length k).getD t 0) by simp [partsTo, HFT.out])
            obtain ⟨L, hL⟩ : ∃ L, partsTo E N.length k = L := ⟨_, rfl⟩
            rw [hL] at hl HO HN
            obtain ⟨x, hx⟩ : ∃ x, L.getD f 0 = x := ⟨_, rfl⟩
            obtain ⟨y, hy⟩ : ∃ y, L.getD t 0 = y := ⟨_, rfl⟩
            rw [hx, hy] at HN
            have cf := own_cellI (k := f) (v := x) HO.out hl (by rw [← hx]; simp [show f < L.length by omega])
            have ct := own_cellI (k := t) (v := y) HO.out hl (by rw [← hy]; simp [show t < L.length by omega])
            have HLL := hide hl
            clear hL hx hy hl
            
            go_wp2_with fail
            clear cf ct e0 e1 HT
            clear kz0 kf0 kc0_0 kc0_1 kE
            go_loopw [8] (fun i wi => ∃ j : Nat, j ≤ N.length ∧ i = .int .i64 j ∧ Hid (wi.ownsRow w0.heap.size 3 1 (.slice (some ⟨g, 0, none⟩) N.length c2) N.length (encI (midU L x y j))) ∧ Hid (Ext w0 wi)) (fun i _ => N.length - (intOf i).toNat)
            case atStart => exact ⟨0, Nat.zero_le _, rfl, hide (by rw [midU_zero]; exact HO.out), HE⟩
            case round =>
              clear HO HE
              obtain ⟨j, hj, rfl, HO, HE⟩ := hrel
              by_cases hlt2 : j < N.length
              · have hlz : (j : Int) < (N.length : Int) := by omega
                have hjl : j < L.length := by have := HLL.out; omega
                have cj := own_cellI HO.out (by rw [midU_length _ _ _ (by omega)]; exact HLL.out) (midU_at L x y hjl)
                have HM := hide (midU_next L x y hjl)
                have HAT := midU_at L x y hjl
                obtain ⟨v, hv⟩ : ∃ v, L[j] = v := ⟨_, rfl⟩
                rw [hv] at cj HM HAT
                have HAT := hide HAT
                clear hv
                have fj := HO.out.frozenAt j
                have hgl := (own_ltg HO.out).2
                have hmx : (if x < y then y else x) = max x y := by split <;> omega
                have hmn : (if y < x then y else x) = min x y := by split <;> omega
                have HMX := hide hmx
                have HMN := hide hmn
                clear hmx hmn
                cases hbv : (v == if x < y then y else x) with
                | true =>
                  have HBV := hide (show v = max x y by rw [← HMX.out]; exact eq_of_beq hbv)
                  go_wp2_with fail
                  clear hbv
                  have hst := HO.out.stored j (.int .i64 (if y < x then y else x))
                  have hE5 := hide (HE.out.setk (k := g) (o := j) (s := none) (by have := HGB.out; omega) (.int .i64 (if y < x then y else x)))
                  have HO5 := hide (show (wr.setCell ⟨g, j, none⟩ (.int .i64 (if y < x then y else x))).ownsRow w0.heap.size 3 1 (.slice (some ⟨g, 0, none⟩) N.length c2) N.length (encI (midU L x y (j + 1))) from by
                    rw [HM.out, if_pos HBV.out, encI_set, ← HMN.out]
                    exact hst.1)
                  clear hst
                  go_roundw
                  case rel => exact ⟨j + 1, by omega, by go_num, HO5, hE5⟩
                  case measure => simp [intOf]; omega
                | false =>
                  have HBV := hide (show v ≠ max x y by rw [← HMX.out]; intro e; rw [← e] at hbv; simp at hbv)
                  go_wp2_with fail
                  clear hbv
                  have HO5 := hide (show wr.ownsRow w0.heap.size 3 1 (.slice (some ⟨g, 0, none⟩) N.length c2) N.length (encI (midU L x y (j + 1))) from by
                    have e : midU L x y (j + 1) = midU L x y j := by
                      rw [HM.out, if_neg HBV.out]
                      exact set_same HAT.out
                    rw [e]
                    exact HO.out)
                  go_roundw
                  case rel => exact ⟨j + 1, by omega, by go_num, HO5, HE⟩
                  case measure => simp [intOf]; omega
              · obtain rfl : j = N.length := by omega
                have hlz : ¬ ((N.length : Nat) : Int) < (N.length : Int) := by omega
                have HO2 := hide (show wr.ownsRow w0.heap.size 3 1 (.slice (some ⟨g, 0, none⟩) N.length c2) N.length (encI (partsTo E N.length (k + 1))) from by
                  have h := HO.out
                  rw [HN.out]
                  have e : N.length = L.length := HLL.out.symm
                  have e2 : midU L x y N.length = uniteL L x y := by rw [e]; exact midU_end L x y
                  rw [e2] at h
                  exact h)
                go_wp2_with fail
                go_roundw
                case rel => exact ⟨k + 1, by omega, by go_num, HO2, HE⟩
                case measure => simp [intOf]; omega
          · obtain rfl : k = E.length := by omega
            
            go_wp2_with fail
            go_ret
            exact ⟨g, c2, rfl, own_mono HO.out HW0.out.size, HW0.out.trans HE.out⟩
set_option maxRecDepth 20000 in
set_option maxHeartbeats 4000000 in
theorem sIsWhole_any (N E : List P2) (A B : Option Addr) (c c' : Nat) (w : World) (hw : WR w N E A B c c') :
    Calls Tryz.prog 11 #[.agg #[.slice A N.length c, .slice B E.length c']] w fun e w' => e = .returned (.bool (wholeB N E)) ∧ Ext w w' := by
  have hEl := hw.hE
  have hNl := hw.hN
  have HW := hide hw
  clear hw
  
  go_enter Tryz.func11, Tryz.ntmps11
  go_wp2_with fail
  obtain ⟨w0, hw⟩ : ∃ w1, w1 = w.alloc (Obj.cells #[Value.slice A N.length c, Value.slice B E.length c'] 27) := ⟨_, rfl⟩; rw [← hw]; have kT : Tr [(w.heap.size, [.slice A N.length c, .slice B E.length c'])] w w0 := (by rw [hw]; exact ⟨by (first | (simp [Bx, CellsAt, go_sem, *]; done) | (simp [Bx, CellsAt, go_sem, *]; omega)), by (repeat (first | exact kE | exact Ext.refl _ | apply Ext.alloc | apply Ext.drewN | apply Ext.drew | apply Ext.set0 | apply Ext.set1 | apply Ext.set2 | apply Ext.set3 | (refine Ext.setk ?_ (by omega) _) | (apply Ext.snoc; assumption)))⟩); have HT := hide kT; clear hw kT; have kT := HT.out; simp only [Tr, Bx, CellsAt, Nat.reduceAdd, Nat.zero_add, and_true] at kT; obtain ⟨⟨kz0, kf0, kc0_0, kc0_1⟩, kE⟩ := kT
  obtain ⟨v, hv⟩ : ∃ v, windowB N E = v := ⟨_, rfl⟩
  have HC := sWindowOk_any N E A B c c' w0 HW.out.hN HW.out.hE HW.out.hc HW.out.hd (HW.out.hr.ext kE) (HW.out.hs.ext kE)
  rw [hv] at HC
  have HV := hide hv
  clear hv
  refine (HC).mono ?_; rintro e w3 ⟨rfl, hb⟩; have HT := hide (HT.out.ext hb); have Hw3 := hide hb; clear hb; clear kz0 kf0 kc0_0 kc0_1 kE; have kT := HT.out; simp only [Tr, Bx, CellsAt, Nat.reduceAdd, Nat.zero_add, and_true] at kT; obtain ⟨⟨kz0, kf0, kc0_0, kc0_1⟩, kE⟩ := kT
  cases v with
  | false =>
    go_wp2_with fail
    go_ret
    exact ⟨ret_bool (by rw [wholeB_no]; intro h; have := windowB_iff.2 h.1; rw [HV.out] at this; cases this), HT.out.2⟩
  | true =>
    have HK := hide (windowB_iff.1 HV.out)
    by_cases hm : 0 < E.length
    · have hm1 : ((E.length : Int) == 0) = false := by simp; intro e; rw [e] at hm; simp at hm
      have hm2 : (E.length == 0) = false := by simp; intro e; rw [e] at hm; simp at hm
      have hn12 := HK.out.n
      have HP := l07Parts_any N E A B c c' _ (HW.out.ext kE) HK.out
      have HM := hide hm
      go_wp2_with (go_at_call 49; refine HP.mono ?_; rintro e w5 ⟨g, c2, rfl, hown, hb5⟩)
      have HO := hide hown
      have HE5 := hide (kE.trans hb5)
      have HS := hide (whole_parts (E := E) (by omega : 0 < N.length) HK.out.ends_lt)
      clear hown hb5 hm hm1 hm2
      have hl := parts_length E N.length E.length
      obtain ⟨L, hL⟩ : ∃ L, partsTo E N.length E.length = L := ⟨_, rfl⟩
      rw [hL] at hl HO HS
      have HLL := hide hl
      clear hL hl
      clear kz0 kf0 kc0_0 kc0_1 kE
      go_loopw [4] (fun i wi => ∃ j : Nat, j ≤ N.length ∧ i = .int .i64 j ∧ Hid (∀ i, i < j → L.getD i 0 = 0) ∧ wi = w5) (fun i _ => N.length - (intOf i).toNat)
      case atStart => exact ⟨0, Nat.zero_le _, rfl, hide (fun i hi => absurd hi (by omega)), rfl⟩
      case round =>
        obtain ⟨j, hj, rfl, hz, rfl⟩ := hrel
        by_cases hlt : j < N.length
        · have hlz : (j : Int) < (N.length : Int) := by omega
          have hjl : j < L.length := by have := HLL.out; omega
          have cj := own_cellI (k := j) (v := L[j]) HO.out HLL.out (by simp [hjl])
          have HG := hide (show L.getD j 0 = L[j] by simp [hjl])
          obtain ⟨v, hv⟩ : ∃ v, L[j] = v := ⟨_, rfl⟩
          rw [hv] at cj HG
          clear hv
          by_cases hv0 : v = 0
          · subst hv0
            go_wp2_with fail
            go_roundw
            case rel => exact ⟨j + 1, by omega, by go_num, hide (fun i hi => by
              rcases Nat.lt_or_ge i j with a | a
              · exact hz.out i a
              · have e : i = j := by omega
                subst e
                exact HG.out), trivial⟩
            case measure => simp [intOf]; omega
          · have hb : (v != 0) = true := by simp; exact hv0
            have HV0 := hide hv0
            clear hv0
            go_wp2_with fail
            go_ret
            exact ⟨ret_bool (by rw [wholeB_no]; intro h; have := HS.out.2 h.2.2 j hlt; rw [HG.out] at this; exact HV0.out this), HE5.out⟩
        · obtain rfl : j = N.length := by omega
          go_wp2_with fail
          go_ret
          exact ⟨ret_bool (by rw [eq_comm, wholeB_iff]; exact ⟨HK.out, HM.out, HS.out.1 hz.out⟩), HE5.out⟩
    · have hm0 : E.length = 0 := by omega
      have hm1 : ((E.length : Int) == 0) = true := by simp; exact List.length_eq_zero_iff.1 hm0
      have hm2 : (E.length == 0) = true := by simp; exact List.length_eq_zero_iff.1 hm0
      have HM := hide hm
      clear hm hm0
      go_wp2_with fail
      go_ret
      exact ⟨ret_bool (by rw [wholeB_no]; intro h; exact HM.out h.2.1), HT.out.2⟩
end Go.Proofs.YtabgcpoaepafjaaGreat
namespace Go.Proofs.YtabgcpoaepafjaaGreat
open Go.RowKit
noncomputable def fcs (N E : List P2) : List (List Nat) := if wholeB N E = true then facesL N E else []
/-- What has been seen. -/
def seenL (M : Nat) (X : List Nat) : List Value := (List.range M).map fun j => Value.bool (decide (j ∈ X))
theorem seenL_length (M : Nat) (X : List Nat) : (seenL M X).length = M := by simp [seenL]
theorem seenL_at {M : Nat} (X : List Nat) {v : Nat} (h : v < M) : (seenL M X)[v]? = some (.bool (decide (v ∈ X))) := by simp [seenL, h]
theorem seenL_nil (M : Nat) : List.replicate M (Value.bool false) = seenL M [] := by
  apply List.ext_getElem?
  intro k
  by_cases hk : k < M
  · rw [seenL_at _ hk]
    simp [hk]
  · rw [List.getElem?_eq_none (by simp; omega), List.getElem?_eq_none (by rw [seenL_length]; omega)]
theorem seenL_set {M : Nat} (X : List Nat) {v : Nat} (h : v < M) : (seenL M X).set v (.bool true) = seenL M (X ++ [v]) := by
  apply List.ext_getElem?
  intro k
  by_cases hk : k = v
  · subst hk
    rw [List.getElem?_set_self (by rw [seenL_length]; exact h), seenL_at _ h]
    simp
  · rw [List.getElem?_set_ne (fun e => hk e.symm)]
    by_cases hkn : k < M
    · rw [seenL_at _ hkn, seenL_at _ hkn]
      simp [hk]
    · rw [List.getElem?_eq_none (by rw [seenL_length]; omega), List.getElem?_eq_none (by rw [seenL_length]; omega)]
theorem bool_info : (Tryz.prog.info? 4).map (fun i => (i.zero, i.size, i.bytes)) = some (some (.bool false), 1, 1) := by kernel_rfl
theorem rows_info : (Tryz.prog.info? 31).map (fun i => (i.zero, i.size, i.bytes)) = some (some (.slice none 0 0), 1, 24) := by kernel_rfl
theorem made_false (n : Nat) : (madeCells (Value.bool false).cells (n * 1)).toList = seenL n [] := by
  rw [Nat.mul_one, ← seenL_nil]
  exact toList_madeCells_one _ _
theorem fcs_facts {N E : List P2} (h : wholeB N E = true) : 0 < (fcs N E).length ∧ (fcs N E).length ≤ 2 * E.length ∧ (∀ l ∈ fcs N E, l ≠ [] ∧ l.length ≤ 2 * E.length ∧ ∀ d ∈ l, d < 2 * E.length) ∧ ∀ d, d < 2 * E.length → d ∈ (fcs N E).flatten := by
  obtain ⟨h1, h2, _⟩ := wholeB_iff.1 h
  have e : fcs N E = facesL N E := by unfold fcs; rw [if_pos h]
  obtain ⟨f1, f2, f3, f4, f5, f6⟩ := (next_inj N E).faces (2 * E.length) (Nat.le_refl _)
  rw [e]
  unfold facesL
  refine ⟨?_, f5, fun l hl => ⟨(f6 l hl).1, (f6 l hl).2, fun d hd => f2 d (List.mem_flatten.2 ⟨l, hl, hd⟩)⟩, f4⟩
  rcases Nat.eq_zero_or_pos (facesTo (nextN N E) (2 * E.length) (2 * E.length)).length with h0 | h0
  · have := List.length_eq_zero_iff.1 h0
    have h4 := f4 0 (by omega)
    rw [this] at h4
    simp at h4
  · exact h0
theorem fcs_yes {N E : List P2} (h : wholeB N E = true) : fcs N E = facesTo (nextN N E) (2 * E.length) (2 * E.length) := by unfold fcs; rw [if_pos h]; rfl
theorem fcs_no {N E : List P2} (h : wholeB N E = false) : fcs N E = [] := by unfold fcs; rw [if_neg (by simp [h])]
theorem facesTo_seen {f : Nat → Nat} {m d : Nat} (h : d ∈ (facesTo f m d).flatten) : facesTo f m (d + 1) = facesTo f m d := by simp only [facesTo]; rw [if_pos h]
theorem facesTo_new {f : Nat → Nat} {m d : Nat} (h : d ∉ (facesTo f m d).flatten) : facesTo f m (d + 1) = facesTo f m d ++ [walkL f m d] := by simp only [facesTo]; rw [if_neg h]
end Go.Proofs.YtabgcpoaepafjaaGreat
namespace Go.Proofs.YtabgcpoaepafjaaGreat
open Go.RowKit
set_option maxRecDepth 20000 in
set_option maxHeartbeats 4000000 in
theorem FacesOf_any (N E : List P2) (A B : Option Addr) (c c' : Nat) (w : World) (hw : WR w N E A B c c') :
    Calls Tryz.prog 96 #[.agg #[.slice A N.length c, .slice B E.length c']] w fun e w' => ∃ A2 c2, e = .returned (.slice A2 (fcs N E).length c2) ∧ (A2 = none ↔ fcs N E = []) ∧ (A2 = none → c2 = 0) ∧ RT w' A2 (fcs N E) ∧ (fcs N E).length ≤ c2 ∧ Ext w w' := by
  obtain ⟨i0, hi, hz0, hz1, hz2⟩ := info_parts rows_info
  obtain ⟨j0, hj, hy0, hy1, hy2⟩ := info_parts bool_info
  have HW := hide hw
  have hEl := hw.hE
  clear hw
  
  go_enter Tryz.func96, Tryz.ntmps96
  go_wp2_with fail
  obtain ⟨w0, hw⟩ : ∃ w1, w1 = w.alloc (Obj.cells #[Value.slice A N.length c, Value.slice B E.length c'] 27) := ⟨_, rfl⟩; rw [← hw]; have kT : Tr [(w.heap.size, [.slice A N.length c, .slice B E.length c'])] w w0 := (by rw [hw]; exact ⟨by (first | (simp [Bx, CellsAt, go_sem, *]; done) | (simp [Bx, CellsAt, go_sem, *]; omega)), by (repeat (first | exact kE | exact Ext.refl _ | apply Ext.alloc | apply Ext.drewN | apply Ext.drew | apply Ext.set0 | apply Ext.set1 | apply Ext.set2 | apply Ext.set3 | (refine Ext.setk ?_ (by omega) _) | (apply Ext.snoc; assumption)))⟩); have HT := hide kT; clear hw kT; have kT := HT.out; simp only [Tr, Bx, CellsAt, Nat.reduceAdd, Nat.zero_add, and_true] at kT; obtain ⟨⟨kz0, kf0, kc0_0, kc0_1⟩, kE⟩ := kT
  obtain ⟨v, hv⟩ : ∃ v, wholeB N E = v := ⟨_, rfl⟩
  have HC := IsWhole_any N E A B c c' w0 (HW.out.ext kE)
  rw [hv] at HC
  have HV := hide hv
  clear hv
  refine (HC).mono ?_; rintro e w1 ⟨rfl, hb⟩; have HT := hide (HT.out.ext hb); have Hw1 := hide hb; clear hb; clear kz0 kf0 kc0_0 kc0_1 kE; have kT := HT.out; simp only [Tr, Bx, CellsAt, Nat.reduceAdd, Nat.zero_add, and_true] at kT; obtain ⟨⟨kz0, kf0, kc0_0, kc0_1⟩, kE⟩ := kT
  cases v with
  | false =>
    have HF := hide (fcs_no HV.out)
    go_wp2_with fail
    go_ret
    exact ⟨none, 0, by rw [HF.out]; rfl, by simp [HF.out], fun _ => rfl, by rw [HF.out]; exact RT.nil _, by rw [HF.out]; exact Nat.le_refl _, HT.out.2⟩
  | true =>
    have HK := hide (wholeB_iff.1 HV.out).1
    have HF := hide (fcs_yes HV.out)
    have HP := hide (fcs_facts HV.out)
    have hm := HK.out.m
    have hm0 := (wholeB_iff.1 HV.out).2.1
    go_wp2_with (at_make; refine wpList_make_full _ rfl _ _ 90 rfl w1.heap.size 4 j0 (.bool false) 1 Tryz.underlying90 hj hy0 hy1 .i64 .i64 (2 * E.length) (2 * E.length) (2 * E.length) rfl rfl (by first | rfl | omega) (by first | rfl | omega) (by rw [hy2]; omega) (by unfold maxLen; omega) (Nat.le_refl _) ?_; intro w2 hown hgrow)
    rw [made_false] at hown
    have hg2 := grown_ext hgrow
    have hgl2 := (own_ltg hown).2
    have HE2 := hide hg2
    have HO2 := hide hown
    have HT1 := HT
    have HGL2 := hide hgl2
    clear hown hgrow hg2 hgl2 HT
    clear kz0 kf0 kc0_0 kc0_1 kE
    go_loopw [4, 19] (fun v i wr => ∃ d : Nat, d ≤ 2 * E.length ∧ i = .int .i64 d ∧ Hid (wr.ownsRow w1.heap.size 4 1 (.slice (some ⟨w1.heap.size, 0, none⟩) (2 * E.length) (2 * E.length)) (2 * E.length) (seenL (2 * E.length) (facesTo (nextN N E) (2 * E.length) d).flatten)) ∧ Hid (∃ hs, GT wr w2.heap.size 31 v (facesTo (nextN N E) (2 * E.length) d) hs) ∧ Hid (Ext w2 wr ∨ Ext w1 wr ∧ w2.heap.size ≤ wr.heap.size)) (fun _ i _ => 2 * E.length - (intOf i).toNat)
    case atStart => exact ⟨0, Nat.zero_le _, rfl, HO2, hide ⟨[], GT.start _ _ _⟩, hide (.inl (Ext.refl _))⟩
    case round =>
      clear HO2
      obtain ⟨d, hd, rfl, HO, HG, HX⟩ := hrel
      have hE : Ext w1 wr ∧ w2.heap.size ≤ wr.heap.size := by
        rcases HX.out with h | h
        · exact ⟨HE2.out.trans h, h.size⟩
        · exact h
      have HE := hide hE
      have HT := hide (HT1.out.ext hE.1)
      clear hE HX
      have kT := HT.out; simp only [Tr, Bx, CellsAt, Nat.reduceAdd, Nat.zero_add, and_true] at kT; obtain ⟨⟨kz0, kf0, kc0_0, kc0_1⟩, kE⟩ := kT
      by_cases hlt : d < 2 * E.length
      · have hlz : (d : Int) < 2 * (E.length : Int) := by omega
        have cd := by have h := HO.out.cellAt d (by omega); rw [seenL_at _ hlt] at h; exact h
        by_cases hin : d ∈ (facesTo (nextN N E) (2 * E.length) d).flatten
        · rw [decide_eq_true hin] at cd
          have HS := hide (facesTo_seen hin)
          clear hin
          go_wp2_with fail
          clear cd
          go_roundw
          case rel => exact ⟨d + 1, by omega, by go_num, by rw [HS.out]; exact HO, by rw [HS.out]; exact HG, hide (.inr HE.out)⟩
          case measure => simp [intOf]; omega
        · rw [decide_eq_false hin] at cd
          have HN := hide (facesTo_new hin)
          clear hin
          have HC2 := walk_any N E A B c c' d wr (HW.out.ext kE) HK.out hlt
          have hwf := (next_inj N E).walk_facts hlt
          have HLT := hide hwf.2.2.1
          have hll := hwf.2.2.2.2.1
          have hfl := ((next_inj N E).faces d (by omega)).2.2.2.2.1
          obtain ⟨l, hl⟩ : ∃ l, walkL (nextN N E) (2 * E.length) d = l := ⟨_, rfl⟩
          rw [hl] at HC2 HLT HN hll
          clear hwf hl
          obtain ⟨F, hF⟩ : ∃ F, facesTo (nextN N E) (2 * E.length) d = F := ⟨_, rfl⟩
          rw [hF] at HO HG HN hfl
          clear hF
          obtain ⟨n, hn⟩ : ∃ n, l.length = n := ⟨_, rfl⟩
          rw [hn] at HC2 hll
          have HLN := hide hn
          clear hn
          go_wp2_with (go_at_call 123; refine HC2.mono ?_; rintro e w3 ⟨g, c2, rfl, hrow, hb3⟩)
          obtain ⟨hs, hG⟩ := HG.out
          have hgw := own_ltg hrow
          obtain ⟨_, _, hnc, _, _⟩ : ∃ A c3, n ≤ c2 ∧ A = c3 ∧ True := by
            obtain ⟨A3, c3, e, h3, _⟩ := own_slice hrow
            injection e with _ _ e
            subst e
            exact ⟨0, 0, h3, rfl, trivial⟩
          have hzr := HE.out.2
          have HGV := hide (show u4.ownBlock ≠ some g from fun e => by have := (hG.own.lt g e).2; omega)
          have HGG := hide (show w2.heap.size ≤ g ∧ w1.heap.size < g from ⟨by omega, by have := HGL2.out; omega⟩)
          have HNC := hide hnc
          have HG3 := hide (hG.ext hb3)
          have HO3 := hide (own_ext HO.out hb3)
          have HE3 := hide (show Ext w1 w3 ∧ w2.heap.size ≤ w3.heap.size from ⟨HE.out.1.trans hb3, by have := hb3.size; omega⟩)
          have HR3 := hide (And.intro (Rds.of_own hrow) hgw.2)
          clear cd hG hgw hnc hzr hrow hb3 HO HG HE HT
          clear kz0 kf0 kc0_0 kc0_1 kE
          go_loopw [31] (fun i wi => ∃ j : Nat, j ≤ n ∧ i = .int .i64 j ∧ Hid (wi.ownsRow w1.heap.size 4 1 (.slice (some ⟨w1.heap.size, 0, none⟩) (2 * E.length) (2 * E.length)) (2 * E.length) (seenL (2 * E.length) (F.flatten ++ l.take j))) ∧ Hid (GT wi w2.heap.size 31 u4 F hs) ∧ Hid (Ext w1 wi ∧ w2.heap.size ≤ wi.heap.size) ∧ Hid (Rds wi 1 (some ⟨g, 0, none⟩) n (encN l) ∧ g < wi.heap.size)) (fun i _ => n - (intOf i).toNat)
          case atStart => exact ⟨0, Nat.zero_le _, rfl, hide (by have := HO3.out; simpa using this), HG3, HE3, HR3⟩
          case round =>
            clear HO3 HG3 HE3 HR3
            obtain ⟨j, hj, rfl, HO, HG, HE, HR⟩ := hrel
            by_cases hlt2 : j < n
            · have hlz2 : (j : Int) < (n : Int) := by omega
              have hjl : j < l.length := by rw [HLN.out]; exact hlt2
              obtain ⟨b', o', hA', _, cj⟩ := RN.at_ HR.out.1 HLN.out hjl
              injection hA' with hA'
              injection hA' with hA1 hA2 _
              subst hA1 hA2
              have hub := HLT.out _ (List.getElem_mem hjl)
              have HTK := hide (List.take_succ_eq_append_getElem hjl)
              obtain ⟨u, hu⟩ : ∃ u, l[j] = u := ⟨_, rfl⟩
              rw [hu, Nat.zero_add] at cj
              rw [hu] at hub HTK
              clear hu
              have hubz : (u : Int) < 2 * (E.length : Int) := by omega
              have cu := by have h := HO.out.cellAt u (by omega); rw [seenL_at _ hub] at h; exact h
              have fu := HO.out.frozenAt u
              go_wp2_with fail
              have hst := (HO.out.stored u (.bool true)).1
              rw [seenL_set _ hub] at hst
              have HO5 := hide (show (wr.setCell ⟨w1.heap.size, u, none⟩ (.bool true)).ownsRow w1.heap.size 4 1 (.slice (some ⟨w1.heap.size, 0, none⟩) (2 * E.length) (2 * E.length)) (2 * E.length) (seenL (2 * E.length) (F.flatten ++ l.take (j + 1))) from by rw [HTK.out, ← List.append_assoc]; exact hst)
              have HG5 := hide (HG.out.setk (k := w1.heap.size) (i := u) (u := .bool true) HGL2.out)
              have HE5 := hide (show Ext w1 (wr.setCell ⟨w1.heap.size, u, none⟩ (.bool true)) ∧ w2.heap.size ≤ (wr.setCell ⟨w1.heap.size, u, none⟩ (.bool true)).heap.size from ⟨HE.out.1.setk (Nat.le_refl _) _, by simpa using HE.out.2⟩)
              have HR5 := hide (show Rds (wr.setCell ⟨w1.heap.size, u, none⟩ (.bool true)) 1 (some ⟨g, 0, none⟩) n (encN l) ∧ g < (wr.setCell ⟨w1.heap.size, u, none⟩ (.bool true)).heap.size from ⟨HR.out.1.setk (by have := HGG.out.2; omega) _, by simpa using HR.out.2⟩)
              clear hst cu fu cj
              obtain ⟨w5, hw5⟩ : ∃ w5, w5 = wr.setCell ⟨w1.heap.size, u, none⟩ (.bool true) := ⟨_, rfl⟩
              rw [← hw5] at HO5 HG5 HE5 HR5 ⊢
              clear hw5
              go_roundw
              case rel => exact ⟨j + 1, by omega, by go_num, HO5, HG5, HE5, HR5⟩
              case measure => simp [intOf]; omega
            · obtain rfl : j = n := by omega
              have hlz2 : ¬ ((j : Nat) : Int) < (j : Int) := by omega
              have HTK := hide (show l.take j = l from List.take_of_length_le (by rw [HLN.out]; exact Nat.le_refl _))
              have hz5 := HE.out.2
              have hbz := HGL2.out
              go_wp2_with (at_builtin; refine wpList_append_own_at _ rfl _ _ 46 rfl w2.heap.size 31 i0 (.slice none 0 0) 1 24 Tryz.underlying46 hi hz0 hz1 hz2 rfl (by decide) u4 _ _ rfl (own_ext HG.out.own ((Ext.refl _).alloc _)) ⟨wr.heap.size, 0, none⟩ 1 1 [Value.slice (some ⟨g, 0, none⟩) j c2] rfl rfl (news_new _ #[Value.slice (some ⟨g, 0, none⟩) j c2] _) (by intro u hu; simp at hu; subst hu; rfl) (by unfold maxLen; omega) (by omega) (by first | (simp; done) | (simp; omega)) ?_; intro v' w4 hown4 hgrow4 hnil hblk)
              have hlen := HLN.out
              have HG5 := hide (show ∃ hs, GT w4 w2.heap.size 31 v' (facesTo (nextN N E) (2 * E.length) (d + 1)) hs from by
                rw [HN.out]
                rw [← hlen] at hown4 hgrow4 hblk
                exact ⟨_, HG.out.more HGG.out.1 HR.out.2 HGV.out (by rw [hlen]; exact HNC.out) (by have h := HR.out.1; rw [← hlen] at h; exact h) hgrow4 hblk hown4⟩)
              have HO5 := hide (show w4.ownsRow w1.heap.size 4 1 (.slice (some ⟨w1.heap.size, 0, none⟩) (2 * E.length) (2 * E.length)) (2 * E.length) (seenL (2 * E.length) (facesTo (nextN N E) (2 * E.length) (d + 1)).flatten) from by
                have h := (HO.out.alloc (.cells #[Value.slice (some ⟨g, 0, none⟩) j c2] 31)).kept hgrow4 (.inr (fun e => by
                  have h2 := (HG.out.own.lt w1.heap.size e.symm).1
                  omega))
                rw [HTK.out] at h
                rw [HN.out, List.flatten_append]
                simpa using h)
              have HE5 := hide (show Ext w1 w4 ∧ w2.heap.size ≤ w4.heap.size from ⟨Ext.grown (HE.out.1.alloc _) hgrow4 (own_base HG.out.own (by omega)), by have := hgrow4.size; simp at this; omega⟩)
              clear hown4 hgrow4 hnil hblk hlen hbz hz5
              go_roundw
              case rel => exact ⟨d + 1, by omega, by go_num, HO5, HG5, hide (.inr HE5.out)⟩
              case measure => simp [intOf]; omega
      · obtain rfl : d = 2 * E.length := by omega
        have hlz : ¬ ((2 * E.length : Nat) : Int) < 2 * (E.length : Int) := by omega
        obtain ⟨hs, hG⟩ := HG.out
        rw [← HF.out] at hG
        obtain ⟨A2, c2, rfl, h1, h2, h3⟩ := hG.done
        have H := hide (And.intro h1 (And.intro h2 h3))
        clear h1 h2 h3 hG
        go_wp2_with fail
        go_ret
        exact ⟨A2, c2, by rw [HF.out]; rfl, ⟨H.out.2.1, fun e => absurd e (by intro e2; have := HP.out.1; rw [e2] at this; simp at this)⟩, fun e => absurd (H.out.2.1 e) (by intro e2; have := HP.out.1; rw [e2] at this; simp at this), H.out.2.2, H.out.1, kE⟩
end Go.Proofs.YtabgcpoaepafjaaGreat
namespace Go.Proofs.YtabgcpoaepafjaaGreat
open Go.RowKit
theorem GT.mono {w : World} {B B' : Nat} {T : TypeId} {v : Value} {F : List (List Nat)} {hs : List Value} (h : GT w B T v F hs) (hb : B' ≤ B) : GT w B' T v F hs :=
  ⟨own_mono h.own hb, fun i l hi => by
    obtain ⟨g, ci, a1, a2, a3, a4⟩ := h.row i l hi
    exact ⟨g, ci, a1, a2, Nat.le_trans hb a3, a4⟩⟩
theorem GT.at_ {w : World} {B n c b : Nat} {T : TypeId} {F : List (List Nat)} {hs : List Value} (h : GT w B T (.slice (some ⟨b, 0, none⟩) n c) F hs) {k : Nat} (hk : k < F.length) :
    ∃ g ci, w.cell? ⟨b, k, none⟩ = some (Value.slice (some ⟨g, 0, none⟩) F[k].length ci) ∧ b < w.heap.size ∧ F[k].length ≤ ci ∧ Rds w 1 (some ⟨g, 0, none⟩) F[k].length (encN F[k]) := by
  obtain ⟨g, ci, a1, a2, a3, a4, a5, a6⟩ := h.row k F[k] (by simp [hk])
  have hl : hs.length = F.length := by have := h.own.1; omega
  obtain ⟨A, c4, e, _, _, _⟩ := own_slice h.own
  injection e with _ e2 _
  subst e2
  exact ⟨g, ci, by rw [h.own.cellAt k (by omega)]; exact a1, (h.own.lt b rfl).2, a2, a6⟩
/-- Neither the headers nor a row lie in block s. -/
def GA (s : Nat) (v : Value) (hs : List Value) : Prop := v.ownBlock ≠ some s ∧ ∀ (i : Nat) (u : Value), hs[i]? = some u → u.ownBlock ≠ some s
theorem GT.setk2 {w : World} {B k i : Nat} {T : TypeId} {v u : Value} {F : List (List Nat)} {hs : List Value} (h : GT w B T v F hs) (ha : GA k v hs) : GT (w.setCell ⟨k, i, none⟩ u) B T v F hs := by
  refine ⟨h.own.kept (w' := w.setCell ⟨k, i, none⟩ u) (row := some k) ⟨rfl, rfl, rfl, by simp, fun q _ hk => Below.heap_setCell _ _ _ _ (fun e => hk (by rw [e]))⟩ (.inr ha.1), fun j l hj => ?_⟩
  obtain ⟨g, ci, a1, a2, a3, a4, a5, a6⟩ := h.row j l hj
  have hne : g ≠ k := fun e => ha.2 j _ a1 (by rw [e]; rfl)
  exact ⟨g, ci, a1, a2, a3, by simpa using a4, a5, a6.setk hne _⟩
theorem GA.more {s g n c : Nat} {v v' : Value} {hs : List Value} {N : Nat} (h : GA s v hs) (hg : g ≠ s) (hN : s < N) (hv : v'.ownBlock = v.ownBlock ∨ v'.ownBlock = some N) : GA s v' (hs ++ [.slice (some ⟨g, 0, none⟩) n c]) := by
  refine ⟨fun e => ?_, fun i u hi => ?_⟩
  · rcases hv with e' | e'
    · exact h.1 (e' ▸ e)
    · rw [e'] at e
      injection e with e
      omega
  · rcases Nat.lt_trichotomy i hs.length with hlt | he | hgt
    · rw [List.getElem?_append_left hlt] at hi
      exact h.2 i u hi
    · subst he
      rw [List.getElem?_append_right (Nat.le_refl _)] at hi
      simp at hi
      subst hi
      intro e
      injection e with e
      exact hg e
    · rw [List.getElem?_eq_none (by simp; omega)] at hi
      cases hi
set_option maxRecDepth 20000 in
set_option maxHeartbeats 4000000 in
theorem sFacesOf_gt (N E : List P2) (A B : Option Addr) (c c' : Nat) (w : World) (hw : WR w N E A B c c') :
    Calls Tryz.prog 22 #[.agg #[.slice A N.length c, .slice B E.length c']] w fun e w' => ∃ A2 c2, e = .returned (.slice A2 (fcs N E).length c2) ∧ (∃ hs, GT w' w.heap.size 31 (.slice A2 (fcs N E).length c2) (fcs N E) hs) ∧ (fcs N E).length ≤ c2 ∧ Ext w w' := by
  obtain ⟨i0, hi, hz0, hz1, hz2⟩ := info_parts rows_info
  obtain ⟨j0, hj, hy0, hy1, hy2⟩ := info_parts bool_info
  have HW := hide hw
  have hEl := hw.hE
  clear hw
  
  go_enter Tryz.func22, Tryz.ntmps22
  go_wp2_with fail
  obtain ⟨w0, hw⟩ : ∃ w1, w1 = w.alloc (Obj.cells #[Value.slice A N.length c, Value.slice B E.length c'] 27) := ⟨_, rfl⟩
  rw [← hw]
  have hsz0 : w0.heap.size = w.heap.size + 1 := by rw [hw]; simp
  have HT := hide (show Tr [(w.heap.size, [.slice A N.length c, .slice B E.length c'])] w w0 from by rw [hw]; exact ⟨by simp [Bx, CellsAt, go_sem, *], by repeat (first | exact kE | exact Ext.refl _ | apply Ext.alloc | apply Ext.drewN | apply Ext.drew | apply Ext.set0 | apply Ext.set1 | apply Ext.set2 | apply Ext.set3 | (refine Ext.setk ?_ (by omega) _) | (apply Ext.snoc; assumption))⟩)
  clear hw
  rw [← hsz0]
  have HSZ := hide hsz0
  clear hsz0
  have HT0 := HT
  obtain ⟨wa, hwa⟩ : ∃ x, x = w0.alloc (Obj.cells #[] 31) := ⟨_, rfl⟩
  rw [← hwa]
  have HA := hide (show wa.ownsRow w0.heap.size 31 1 (.slice (some ⟨w0.heap.size, 0, none⟩) 0 0) 0 [] from by rw [hwa]; exact World.ownsRow_lit w0 #[] 0 (Nat.le_refl _) (Nat.zero_le _) rfl)
  have HEa := hide (show Ext w0 wa from by rw [hwa]; exact (Ext.refl _).alloc _)
  have hlta : w0.heap.size < wa.heap.size := by rw [hwa]; simp
  have HLTA := hide hlta
  clear hwa hlta HT
  have HT := hide (HT0.out.ext HEa.out)
  have kT := HT.out; simp only [Tr, Bx, CellsAt, Nat.reduceAdd, Nat.zero_add, and_true] at kT; obtain ⟨⟨kz0, kf0, kc0_0, kc0_1⟩, kE⟩ := kT
  obtain ⟨v, hv⟩ : ∃ v, wholeB N E = v := ⟨_, rfl⟩
  have HC := sIsWhole_any N E A B c c' wa (HW.out.ext kE)
  rw [hv] at HC
  have HV := hide hv
  clear hv
  refine (HC).mono ?_; rintro e w1 ⟨rfl, hb⟩; have HT := hide (HT.out.ext hb); have Hw1 := hide hb; clear hb; clear kz0 kf0 kc0_0 kc0_1 kE; have kT := HT.out; simp only [Tr, Bx, CellsAt, Nat.reduceAdd, Nat.zero_add, and_true] at kT; obtain ⟨⟨kz0, kf0, kc0_0, kc0_1⟩, kE⟩ := kT
  cases v with
  | false =>
    have HF := hide (fcs_no HV.out)
    go_wp2_with fail
    go_ret
    exact ⟨some ⟨w0.heap.size, 0, none⟩, 0, by rw [HF.out]; rfl, by rw [HF.out]; exact ⟨[], own_mono (own_ext HA.out Hw1.out) (by have := HSZ.out; omega), fun i l h => by simp at h⟩, by rw [HF.out]; exact Nat.le_refl _, HT.out.2⟩
  | true =>
    have HK := hide (wholeB_iff.1 HV.out).1
    have HF := hide (fcs_yes HV.out)
    have HP := hide (fcs_facts HV.out)
    have hm := HK.out.m
    have hm0 := (wholeB_iff.1 HV.out).2.1
    go_wp2_with (at_make; refine wpList_make_full _ rfl _ _ 90 rfl w1.heap.size 4 j0 (.bool false) 1 Tryz.underlying90 hj hy0 hy1 .i64 .i64 (2 * E.length) (2 * E.length) (2 * E.length) rfl rfl (by first | rfl | omega) (by first | rfl | omega) (by rw [hy2]; omega) (by unfold maxLen; omega) (Nat.le_refl _) ?_; intro w2 hown hgrow)
    rw [made_false] at hown
    have hg2 := grown_ext hgrow
    have hgl2 := (own_ltg hown).2
    have HE2 := hide hg2
    have HO2 := hide hown
    have HGL2 := hide hgl2
    have HG2 := hide (show ∃ hs, GT w2 w0.heap.size 31 (.slice (some ⟨w0.heap.size, 0, none⟩) 0 0) [] hs ∧ GA w1.heap.size (.slice (some ⟨w0.heap.size, 0, none⟩) 0 0) hs from ⟨[], ⟨own_ext (own_ext HA.out Hw1.out) hg2, fun i l h => by simp at h⟩, fun e => by injection e with e; have h1 := HLTA.out; have h2 := Hw1.out.size; have e2 : w0.heap.size = w1.heap.size := e; omega, fun i u h => by simp at h⟩)
    have HEE := hide (show Ext w0 w2 ∧ w2.heap.size ≤ w2.heap.size from ⟨(HEa.out.trans Hw1.out).trans hg2, Nat.le_refl _⟩)
    clear hown hgrow hg2 hgl2 HT
    clear kz0 kf0 kc0_0 kc0_1 kE
    go_loopw [3, 5] (fun v i wr => ∃ d : Nat, d ≤ 2 * E.length ∧ i = .int .i64 d ∧ Hid (wr.ownsRow w1.heap.size 4 1 (.slice (some ⟨w1.heap.size, 0, none⟩) (2 * E.length) (2 * E.length)) (2 * E.length) (seenL (2 * E.length) (facesTo (nextN N E) (2 * E.length) d).flatten)) ∧ Hid (∃ hs, GT wr w0.heap.size 31 v (facesTo (nextN N E) (2 * E.length) d) hs ∧ GA w1.heap.size v hs) ∧ Hid (Ext w0 wr ∧ w2.heap.size ≤ wr.heap.size)) (fun _ i _ => 2 * E.length - (intOf i).toNat)
    case atStart => exact ⟨0, Nat.zero_le _, rfl, HO2, HG2, HEE⟩
    case round =>
      clear HO2 HG2 HEE
      obtain ⟨d, hd, rfl, HO, HG, HE⟩ := hrel
      have HT := hide (HT0.out.ext HE.out.1)
      have kT := HT.out; simp only [Tr, Bx, CellsAt, Nat.reduceAdd, Nat.zero_add, and_true] at kT; obtain ⟨⟨kz0, kf0, kc0_0, kc0_1⟩, kE⟩ := kT
      by_cases hlt : d < 2 * E.length
      · have hlz : (d : Int) < 2 * (E.length : Int) := by omega
        have cd := by have h := HO.out.cellAt d (by omega); rw [seenL_at _ hlt] at h; exact h
        by_cases hin : d ∈ (facesTo (nextN N E) (2 * E.length) d).flatten
        · rw [decide_eq_true hin] at cd
          have HS := hide (facesTo_seen hin)
          clear hin
          go_wp2_with fail
          clear cd
          go_roundw
          case rel => exact ⟨d + 1, by omega, by go_num, by rw [HS.out]; exact HO, by rw [HS.out]; exact HG, HE⟩
          case measure => simp [intOf]; omega
        · rw [decide_eq_false hin] at cd
          have HN := hide (facesTo_new hin)
          clear hin
          have HC2 := l06Walk_any N E A B c c' d wr (HW.out.ext kE) HK.out hlt
          have hwf := (next_inj N E).walk_facts hlt
          have HLT := hide hwf.2.2.1
          have hll := hwf.2.2.2.2.1
          have hfl := ((next_inj N E).faces d (by omega)).2.2.2.2.1
          obtain ⟨l, hl⟩ : ∃ l, walkL (nextN N E) (2 * E.length) d = l := ⟨_, rfl⟩
          rw [hl] at HC2 HLT HN hll
          clear hwf hl
          obtain ⟨F, hF⟩ : ∃ F, facesTo (nextN N E) (2 * E.length) d = F := ⟨_, rfl⟩
          rw [hF] at HO HG HN hfl
          clear hF
          obtain ⟨n, hn⟩ : ∃ n, l.length = n := ⟨_, rfl⟩
          rw [hn] at HC2 hll
          have HLN := hide hn
          clear hn
          go_wp2_with (go_at_call 64; refine HC2.mono ?_; rintro e w3 ⟨g, c2, rfl, hrow, hb3⟩)
          obtain ⟨hs, hG, hGA⟩ := HG.out
          have HGA := hide hGA
          clear hGA
          have hgw := own_ltg hrow
          obtain ⟨_, _, hnc, _, _⟩ : ∃ A c3, n ≤ c2 ∧ A = c3 ∧ True := by
            obtain ⟨A3, c3, e, h3, _⟩ := own_slice hrow
            injection e with _ _ e
            subst e
            exact ⟨0, 0, h3, rfl, trivial⟩
          have hzr := HE.out.2
          have HGV := hide (show u3.ownBlock ≠ some g from fun e => by have := (hG.own.lt g e).2; omega)
          have HGG := hide (show w0.heap.size ≤ g ∧ w1.heap.size < g from ⟨by have h1 := HLTA.out; have h2 := Hw1.out.size; have := HGL2.out; omega, by have := HGL2.out; omega⟩)
          have HNC := hide hnc
          have HG3 := hide (hG.ext hb3)
          have HO3 := hide (own_ext HO.out hb3)
          have HE3 := hide (show Ext w0 w3 ∧ w2.heap.size ≤ w3.heap.size from ⟨HE.out.1.trans hb3, by have := hb3.size; omega⟩)
          have HR3 := hide (And.intro (Rds.of_own hrow) hgw.2)
          clear cd hG hgw hnc hzr hrow hb3 HO HG HE HT
          clear kz0 kf0 kc0_0 kc0_1 kE
          go_loopw [7] (fun i wi => ∃ j : Nat, j ≤ n ∧ i = .int .i64 j ∧ Hid (wi.ownsRow w1.heap.size 4 1 (.slice (some ⟨w1.heap.size, 0, none⟩) (2 * E.length) (2 * E.length)) (2 * E.length) (seenL (2 * E.length) (F.flatten ++ l.take j))) ∧ Hid (GT wi w0.heap.size 31 u3 F hs) ∧ Hid (Ext w0 wi ∧ w2.heap.size ≤ wi.heap.size) ∧ Hid (Rds wi 1 (some ⟨g, 0, none⟩) n (encN l) ∧ g < wi.heap.size)) (fun i _ => n - (intOf i).toNat)
          case atStart => exact ⟨0, Nat.zero_le _, rfl, hide (by have := HO3.out; simpa using this), HG3, HE3, HR3⟩
          case round =>
            clear HO3 HG3 HE3 HR3
            obtain ⟨j, hj, rfl, HO, HG, HE, HR⟩ := hrel
            by_cases hlt2 : j < n
            · have hlz2 : (j : Int) < (n : Int) := by omega
              have hjl : j < l.length := by rw [HLN.out]; exact hlt2
              obtain ⟨b', o', hA', _, cj⟩ := RN.at_ HR.out.1 HLN.out hjl
              injection hA' with hA'
              injection hA' with hA1 hA2 _
              subst hA1 hA2
              have hub := HLT.out _ (List.getElem_mem hjl)
              have HTK := hide (List.take_succ_eq_append_getElem hjl)
              obtain ⟨u, hu⟩ : ∃ u, l[j] = u := ⟨_, rfl⟩
              rw [hu, Nat.zero_add] at cj
              rw [hu] at hub HTK
              clear hu
              have hubz : (u : Int) < 2 * (E.length : Int) := by omega
              have cu := by have h := HO.out.cellAt u (by omega); rw [seenL_at _ hub] at h; exact h
              have fu := HO.out.frozenAt u
              go_wp2_with fail
              have hst := (HO.out.stored u (.bool true)).1
              rw [seenL_set _ hub] at hst
              have HO5 := hide (show (wr.setCell ⟨w1.heap.size, u, none⟩ (.bool true)).ownsRow w1.heap.size 4 1 (.slice (some ⟨w1.heap.size, 0, none⟩) (2 * E.length) (2 * E.length)) (2 * E.length) (seenL (2 * E.length) (F.flatten ++ l.take (j + 1))) from by rw [HTK.out, ← List.append_assoc]; exact hst)
              have HG5 := hide (HG.out.setk2 (k := w1.heap.size) (i := u) (u := .bool true) HGA.out)
              have HE5 := hide (show Ext w0 (wr.setCell ⟨w1.heap.size, u, none⟩ (.bool true)) ∧ w2.heap.size ≤ (wr.setCell ⟨w1.heap.size, u, none⟩ (.bool true)).heap.size from ⟨HE.out.1.setk (by have h1 := HLTA.out; have h2 := Hw1.out.size; omega) _, by simpa using HE.out.2⟩)
              have HR5 := hide (show Rds (wr.setCell ⟨w1.heap.size, u, none⟩ (.bool true)) 1 (some ⟨g, 0, none⟩) n (encN l) ∧ g < (wr.setCell ⟨w1.heap.size, u, none⟩ (.bool true)).heap.size from ⟨HR.out.1.setk (by have := HGG.out.2; omega) _, by simpa using HR.out.2⟩)
              clear hst cu fu cj
              obtain ⟨w5, hw5⟩ : ∃ w5, w5 = wr.setCell ⟨w1.heap.size, u, none⟩ (.bool true) := ⟨_, rfl⟩
              rw [← hw5] at HO5 HG5 HE5 HR5 ⊢
              clear hw5
              go_roundw
              case rel => exact ⟨j + 1, by omega, by go_num, HO5, HG5, HE5, HR5⟩
              case measure => simp [intOf]; omega
            · obtain rfl : j = n := by omega
              have hlz2 : ¬ ((j : Nat) : Int) < (j : Int) := by omega
              have HTK := hide (show l.take j = l from List.take_of_length_le (by rw [HLN.out]; exact Nat.le_refl _))
              have hz5 := HE.out.2
              have hbz := HGL2.out
              have hbz1 := HLTA.out
              have hbz2 := Hw1.out.size
              go_wp2_with (at_builtin; refine wpList_append_own_at _ rfl _ _ 46 rfl w0.heap.size 31 i0 (.slice none 0 0) 1 24 Tryz.underlying46 hi hz0 hz1 hz2 rfl (by decide) u3 _ _ rfl (own_ext HG.out.own ((Ext.refl _).alloc _)) ⟨wr.heap.size, 0, none⟩ 1 1 [Value.slice (some ⟨g, 0, none⟩) j c2] rfl rfl (news_new _ #[Value.slice (some ⟨g, 0, none⟩) j c2] _) (by intro u hu; simp at hu; subst hu; rfl) (by unfold maxLen; omega) (by omega) (by first | (simp; done) | (simp; omega)) ?_; intro v' w4 hown4 hgrow4 hnil hblk)
              have hlen := HLN.out
              have HG5 := hide (show ∃ hs, GT w4 w0.heap.size 31 v' (facesTo (nextN N E) (2 * E.length) (d + 1)) hs ∧ GA w1.heap.size v' hs from by
                rw [HN.out]
                rw [← hlen] at hown4 hgrow4 hblk
                exact ⟨_, HG.out.more HGG.out.1 HR.out.2 HGV.out (by rw [hlen]; exact HNC.out) (by have h := HR.out.1; rw [← hlen] at h; exact h) hgrow4 hblk hown4, HGA.out.more (by have := HGG.out.2; omega) (by simp; omega) hblk⟩)
              have HO5 := hide (show w4.ownsRow w1.heap.size 4 1 (.slice (some ⟨w1.heap.size, 0, none⟩) (2 * E.length) (2 * E.length)) (2 * E.length) (seenL (2 * E.length) (facesTo (nextN N E) (2 * E.length) (d + 1)).flatten) from by
                have h := (HO.out.alloc (.cells #[Value.slice (some ⟨g, 0, none⟩) j c2] 31)).kept hgrow4 (.inr (fun e => HGA.out.1 e.symm))
                rw [HTK.out] at h
                rw [HN.out, List.flatten_append]
                simpa using h)
              have HE5 := hide (show Ext w0 w4 ∧ w2.heap.size ≤ w4.heap.size from ⟨Ext.grown (HE.out.1.alloc _) hgrow4 (own_base HG.out.own (Nat.le_refl _)), by have := hgrow4.size; simp at this; omega⟩)
              clear hown4 hgrow4 hnil hblk hlen hbz hz5 hbz1 hbz2
              go_roundw
              case rel => exact ⟨d + 1, by omega, by go_num, HO5, HG5, HE5⟩
              case measure => simp [intOf]; omega
      · obtain rfl : d = 2 * E.length := by omega
        have hlz : ¬ ((2 * E.length : Nat) : Int) < 2 * (E.length : Int) := by omega
        obtain ⟨hs, hG, _⟩ := HG.out
        rw [← HF.out] at hG
        have HGF := hide (hG.mono (show w.heap.size ≤ w0.heap.size from by have := HSZ.out; omega))
        obtain ⟨A2, c2, rfl, h1, h2, h3⟩ := hG.done
        have H := hide h1
        clear h1 h2 h3 hG
        go_wp2_with fail
        go_ret
        exact ⟨A2, c2, by rw [HF.out]; rfl, ⟨hs, HGF.out⟩, H.out, kE⟩
theorem sFacesOf_any (N E : List P2) (A B : Option Addr) (c c' : Nat) (w : World) (hw : WR w N E A B c c') :
    Calls Tryz.prog 22 #[.agg #[.slice A N.length c, .slice B E.length c']] w fun e w' => ∃ A2 c2, e = .returned (.slice A2 (fcs N E).length c2) ∧ RT w' A2 (fcs N E) ∧ (fcs N E).length ≤ c2 ∧ Ext w w' := by
  refine (sFacesOf_gt N E A B c c' w hw).mono ?_
  rintro e w' ⟨A2, c2, rfl, ⟨hs, hG⟩, h1, h2⟩
  obtain ⟨A3, c3, e, _, _, h3⟩ := hG.done
  injection e with e1 _ _
  subst e1
  exact ⟨A2, c2, rfl, h3, h1, h2⟩
end Go.Proofs.YtabgcpoaepafjaaGreat
