/- Walks of IsWhole (both forms). No condition but that a list has at most 1048576 elements. -/
import Derived.Test.YtkgbilbicdiadaaWinI
import Derived.Test.YtkgbilbicdiadaaWinIs
import Derived.Test.YtkgbilbicdiadaaSpread
import Derived.Test.YtkgbilbicdiadaaMembers
import Derived.Test.YtkgbilbicdiadaaTrackH
set_option linter.unusedSimpArgs false
set_option linter.unusedVariables false
namespace Go.Proofs.Ytkgbilbicdiadaa
open Go.RowKit

theorem WinOk.lead_nat {N E : List P2} (h : WinOk N E) {k : Nat} (hk : k < E.length) : ∃ f t : Nat, at2 E k = ((f : Int), (t : Int)) ∧ f < N.length ∧ t < N.length := by
  have h1 := h.lead_at hk
  obtain ⟨f, hf⟩ := Int.eq_ofNat_of_zero_le h1.1
  obtain ⟨t, ht⟩ := Int.eq_ofNat_of_zero_le h1.2.2.1
  exact ⟨f, t, Prod.ext hf ht, by omega, by omega⟩
theorem WinOk.ends_lt {N E : List P2} (h : WinOk N E) : ∀ j : Nat, j < E.length → (at2 E j).1.toNat < N.length ∧ (at2 E j).2.toNat < N.length := fun j hj => by
  have h1 := h.lead_at hj
  omega
theorem shl_one {f : Nat} (hf : f < 62) : IntKind.i64.wrap ((2 : Int) ^ f) = ((2 ^ f : Nat) : Int) := by
  have e : ((2 : Int) ^ f) = ((2 ^ f : Nat) : Int) := by push_cast; rfl
  rw [e]
  exact wraps_i64 _ (Int.natCast_nonneg _) (by have := Nat.pow_lt_pow_right (show 1 < 2 by decide) hf; omega)
theorem or_two {u f t : Nat} (hu : u < 2 ^ 60) (hf : f < 60) (ht : t < 60) : bits .or .i64 (u : Int) (bits .or .i64 (IntKind.i64.wrap ((2 : Int) ^ f)) (IntKind.i64.wrap ((2 : Int) ^ t))) = ((u ||| (2 ^ f ||| 2 ^ t) : Nat) : Int) := by
  have h1 : 2 ^ f < 2 ^ 60 := Nat.pow_lt_pow_right (by decide) hf
  have h2 : 2 ^ t < 2 ^ 60 := Nat.pow_lt_pow_right (by decide) ht
  rw [shl_one (by omega), shl_one (by omega), i64_or _ _ (by omega) (by omega), i64_or _ _ (by omega) (Nat.lt_of_lt_of_le (Nat.or_lt_two_pow h1 h2) (by decide))]
set_option maxRecDepth 20000 in
set_option maxHeartbeats 4000000 in
theorem partOf_any (N E : List P2) (A B : Option Addr) (c c' : Nat) (w : World) (hw : WR w N E A B c c') (hok : WinOk N E) :
    Calls Try.prog 137 #[.agg #[.slice A N.length c, .slice B E.length c'], .int .i64 0] w fun e w' => ∃ A2 c2, e = .returned (.slice A2 (memN (it (spreadTo E E.length) N.length 1) N.length).length c2) ∧ Ext w w' := by
  have HW := hide hw
  have HK := hide hok
  have hn := hok.n
  have hm := hok.m
  have hsp := spread_closing hok.ends_lt
  have hs := fun i => hsp.it_lt (show 1 < 2 ^ N.length from Nat.one_lt_two_pow (by omega)) i
  have hsp2 := fun s (h : s < 2 ^ N.length) k (hk : k ≤ E.length) => spread_lt h k fun j hj => hok.ends_lt j (by omega)
  have HS := hide hs
  have HSP := hide hsp2
  have hp12 : 2 ^ N.length ≤ 4096 := by have := Nat.pow_le_pow_right (show 0 < 2 by decide) hn.2; simpa using this
  clear hw hok hsp hs hsp2
  
  go_enter Try.func137, Try.ntmps137
  go_wp2_with fail
  obtain ⟨w0, hw⟩ : ∃ w1, w1 = w.alloc (Obj.cells #[Value.slice A N.length c, Value.slice B E.length c'] 27) := ⟨_, rfl⟩; rw [← hw]; have kT : Tr [(w.heap.size, [.slice A N.length c, .slice B E.length c'])] w w0 := (by rw [hw]; exact ⟨by (first | (simp [Bx, CellsAt, go_sem, *]; done) | (simp [Bx, CellsAt, go_sem, *]; omega)), by (repeat (first | exact kE | exact Ext.refl _ | apply Ext.alloc | apply Ext.drewN | apply Ext.drew | apply Ext.set0 | apply Ext.set1 | apply Ext.set2 | apply Ext.set3 | (refine Ext.setk ?_ (by omega) _) | (apply Ext.snoc; assumption)))⟩); have HT := hide kT; clear hw kT; have kT := HT.out; simp only [Tr, Bx, CellsAt, Nat.reduceAdd, Nat.zero_add, and_true] at kT; obtain ⟨⟨kz0, kf0, kc0_0, kc0_1⟩, kE⟩ := kT
  clear kz0 kf0 kc0_0 kc0_1 kE
  go_loopw [5, 13] (fun v i wr => ∃ k : Nat, k ≤ N.length ∧ i = .int .i64 k ∧ v = .int .i64 (it (spreadTo E E.length) k 1 : Nat) ∧ Hid (Ext w0 wr)) (fun _ i _ => N.length - (intOf i).toNat)
  case atStart => exact ⟨0, Nat.zero_le _, rfl, rfl, hide (Ext.refl _)⟩
  case round =>
    obtain ⟨k, hk, rfl, rfl, HE⟩ := hrel
    have hE := HE.out
    have HT := hide (HT.out.ext hE); clear hE; have kT := HT.out; simp only [Tr, Bx, CellsAt, Nat.reduceAdd, Nat.zero_add, and_true] at kT; obtain ⟨⟨kz0, kf0, kc0_0, kc0_1⟩, kE⟩ := kT
    by_cases hlt : k < N.length
    · have hlz : (k : Int) < (N.length : Int) := by omega
      have hsk := HS.out k
      have HI := hide (show it (spreadTo E E.length) (k + 1) 1 = spreadTo E E.length (it (spreadTo E E.length) k 1) from rfl)
      obtain ⟨s, hs⟩ : ∃ s, it (spreadTo E E.length) k 1 = s := ⟨_, rfl⟩
      rw [hs] at hsk HI ⊢
      clear hs
      have HSK := hide hsk
      clear hsk
      obtain ⟨wo, rfl⟩ : ∃ wo : World, wo = wr := ⟨_, rfl⟩
      go_wp2_with fail
      clear kz0 kf0 kc0_0 kc0_1 kE
      go_loopw [5, 18] (fun v i wi => ∃ j : Nat, j ≤ E.length ∧ i = .int .i64 j ∧ v = .int .i64 (spreadTo E j s : Nat) ∧ Hid (Ext wo wi)) (fun _ i _ => E.length - (intOf i).toNat)
      case atStart => exact ⟨0, Nat.zero_le _, rfl, rfl, hide (Ext.refl _)⟩
      case round =>
        obtain ⟨j, hj, rfl, rfl, HE2⟩ := hrel
        have hE := HE2.out
        have HT := hide (HT.out.ext hE); clear hE; have kT := HT.out; simp only [Tr, Bx, CellsAt, Nat.reduceAdd, Nat.zero_add, and_true] at kT; obtain ⟨⟨kz0, kf0, kc0_0, kc0_1⟩, kE⟩ := kT
        by_cases hlt2 : j < E.length
        · obtain ⟨b, off, rfl, hb, e0, e1⟩ := R2.at_ (HW.out.hs.ext kE) hlt2
          obtain ⟨f, t, hft, hf, ht⟩ := HK.out.lead_nat hlt2
          rw [at2_eq hlt2] at hft
          have HFT := hide (show at2 E j = ((f : Int), (t : Int)) by rw [at2_eq hlt2, hft])
          rw [hft] at e0 e1
          dsimp only at e0 e1
          clear hft
          have y2 : (j : Int) < (E.length : Int) := by omega
          have hu := HSP.out s HSK.out j hj
          have HN := hide (show spreadTo E (j + 1) s = if (spreadTo E j s).testBit f = true ∨ (spreadTo E j s).testBit t = true then spreadTo E j s ||| (2 ^ f ||| 2 ^ t) else spreadTo E j s by simp [spreadTo, HFT.out])
          obtain ⟨u, hu'⟩ : ∃ u, spreadTo E j s = u := ⟨_, rfl⟩
          rw [hu'] at HN hu ⊢
          clear hu'
          have hu62 : u < 2 ^ 62 := by omega
          have b1 := bit_at u f hu62
          have b2 := bit_at u t hu62
          
          cases hbf : u.testBit f with
          | true =>
            rw [hbf, if_pos rfl] at b1
            have HBF := hide hbf
            clear hbf b2
            go_wp2_with fail
            obtain ⟨w2, hw⟩ : ∃ w1, w1 = wr.alloc (Obj.cells #[Value.int IntKind.i64 (f : Int), Value.int IntKind.i64 (t : Int)] 84) := ⟨_, rfl⟩; rw [← hw]; have Hw2 := hide (show Ext wr w2 from (by (rw [hw]; (try clear kE); repeat (first | exact kE | exact Ext.refl _ | apply Ext.alloc | apply Ext.drewN | apply Ext.drew | apply Ext.set0 | apply Ext.set1 | apply Ext.set2 | apply Ext.set3 | (refine Ext.setk ?_ (by omega) _) | (apply Ext.snoc; assumption))))); have HT := hide (HT.out.more Hw2.out (wr.heap.size) [.int .i64 (f : Int), .int .i64 (t : Int)] (by (rw [hw]; first | (simp [CellsAt, go_sem, *]; done) | (simp [CellsAt, go_sem, *]; omega)))); have Zw2 := hide (congrArg (fun z : World => z.heap.size) hw); clear hw kz0 kf0 kc0_0 kc0_1 kE; have kT := HT.out; simp only [Tr, Bx, CellsAt, Nat.reduceAdd, Nat.zero_add, and_true] at kT; obtain ⟨⟨⟨kz0, kf0, kc0_0, kc0_1⟩, ⟨kz1, kf1, kc1_0, kc1_1⟩⟩, kE⟩ := kT
            have kq0_0 := ExtBy.cell (W := w2) kz0 kc0_0; have kq0_1 := ExtBy.cell (W := w2) kz0 kc0_1; have kq1_0 := ExtBy.cell (W := w2) kz1 kc1_0; have kq1_1 := ExtBy.cell (W := w2) kz1 kc1_1; refine wp_region_quietE (by kernel_rfl) (by kernel_rfl) ?_; (repeat (refine WQ.step (fun K hK => ?_); have HK := hide hK; clear hK; go_simp; refine HK.out _ ?_; clear HK K)); refine WQ.done ?_; intro w3 hw'; obtain ⟨⟨_, hw3⟩, hw''⟩ := hw'; subst hw''; clear kq0_0 kq0_1 kq1_0 kq1_1; have HT := hide (HT.out.ext hw3); have Hw3 := hide hw3; clear hw3 kz0 kf0 kc0_0 kc0_1 kz1 kf1 kc1_0 kc1_1 kE; have kT := HT.out; simp only [Tr, Bx, CellsAt, Nat.reduceAdd, Nat.zero_add, and_true] at kT; obtain ⟨⟨⟨kz0, kf0, kc0_0, kc0_1⟩, ⟨kz1, kf1, kc1_0, kc1_1⟩⟩, kE⟩ := kT
            go_wp2_with fail
            have HV := hide (show bits .or .i64 (u : Int) (bits .or .i64 (IntKind.i64.wrap ((2 : Int) ^ f)) (IntKind.i64.wrap ((2 : Int) ^ t))) = (spreadTo E (j + 1) s : Nat) by rw [HN.out, if_pos (.inl HBF.out)]; exact or_two (by omega) (by omega) (by omega))
            have hE5 := hide (HE2.out.trans (Hw2.out.trans Hw3.out))
            go_roundw
            case rel => exact ⟨j + 1, by omega, by go_num, by rw [HV.out], hE5⟩
            case measure => simp [intOf]; omega
          | false =>
            have b1' : bits .and .i64 ((u : Int) / 2 ^ f) 1 = 0 := by rw [b1, hbf]; rfl
            clear b1
            have HBF := hide hbf
            clear hbf
            cases hbt : u.testBit t with
            | true =>
              rw [hbt, if_pos rfl] at b2
              have HBT := hide hbt
              clear hbt
              
              go_wp2_with fail
              obtain ⟨w2, hw⟩ : ∃ w1, w1 = wr.alloc (Obj.cells #[Value.int IntKind.i64 (f : Int), Value.int IntKind.i64 (t : Int)] 84) := ⟨_, rfl⟩; rw [← hw]; have Hw2 := hide (show Ext wr w2 from (by (rw [hw]; (try clear kE); repeat (first | exact kE | exact Ext.refl _ | apply Ext.alloc | apply Ext.drewN | apply Ext.drew | apply Ext.set0 | apply Ext.set1 | apply Ext.set2 | apply Ext.set3 | (refine Ext.setk ?_ (by omega) _) | (apply Ext.snoc; assumption))))); have HT := hide (HT.out.more Hw2.out (wr.heap.size) [.int .i64 (f : Int), .int .i64 (t : Int)] (by (rw [hw]; first | (simp [CellsAt, go_sem, *]; done) | (simp [CellsAt, go_sem, *]; omega)))); have Zw2 := hide (congrArg (fun z : World => z.heap.size) hw); clear hw kz0 kf0 kc0_0 kc0_1 kE; have kT := HT.out; simp only [Tr, Bx, CellsAt, Nat.reduceAdd, Nat.zero_add, and_true] at kT; obtain ⟨⟨⟨kz0, kf0, kc0_0, kc0_1⟩, ⟨kz1, kf1, kc1_0, kc1_1⟩⟩, kE⟩ := kT
              have kq0_0 := ExtBy.cell (W := w2) kz0 kc0_0; have kq0_1 := ExtBy.cell (W := w2) kz0 kc0_1; have kq1_0 := ExtBy.cell (W := w2) kz1 kc1_0; have kq1_1 := ExtBy.cell (W := w2) kz1 kc1_1; refine wp_region_quietE (by kernel_rfl) (by kernel_rfl) ?_; (repeat (refine WQ.step (fun K hK => ?_); have HK := hide hK; clear hK; go_simp; refine HK.out _ ?_; clear HK K)); refine WQ.done ?_; intro w3 hw'; obtain ⟨⟨_, hw3⟩, hw''⟩ := hw'; subst hw''; clear kq0_0 kq0_1 kq1_0 kq1_1; have HT := hide (HT.out.ext hw3); have Hw3 := hide hw3; clear hw3 kz0 kf0 kc0_0 kc0_1 kz1 kf1 kc1_0 kc1_1 kE; have kT := HT.out; simp only [Tr, Bx, CellsAt, Nat.reduceAdd, Nat.zero_add, and_true] at kT; obtain ⟨⟨⟨kz0, kf0, kc0_0, kc0_1⟩, ⟨kz1, kf1, kc1_0, kc1_1⟩⟩, kE⟩ := kT
              go_wp2_with fail
              have HV := hide (show bits .or .i64 (u : Int) (bits .or .i64 (IntKind.i64.wrap ((2 : Int) ^ f)) (IntKind.i64.wrap ((2 : Int) ^ t))) = (spreadTo E (j + 1) s : Nat) by rw [HN.out, if_pos (.inr HBT.out)]; exact or_two (by omega) (by omega) (by omega))
              have hE5 := hide (HE2.out.trans (Hw2.out.trans Hw3.out))
              go_roundw
              case rel => exact ⟨j + 1, by omega, by go_num, by rw [HV.out], hE5⟩
              case measure => simp [intOf]; omega
            | false =>
              have b2' : bits .and .i64 ((u : Int) / 2 ^ t) 1 = 0 := by rw [b2, hbt]; rfl
              clear b2
              have HBT := hide hbt
              clear hbt
              
              go_wp2_with fail
              obtain ⟨w2, hw⟩ : ∃ w1, w1 = wr.alloc (Obj.cells #[Value.int IntKind.i64 (f : Int), Value.int IntKind.i64 (t : Int)] 84) := ⟨_, rfl⟩; rw [← hw]; have Hw2 := hide (show Ext wr w2 from (by (rw [hw]; (try clear kE); repeat (first | exact kE | exact Ext.refl _ | apply Ext.alloc | apply Ext.drewN | apply Ext.drew | apply Ext.set0 | apply Ext.set1 | apply Ext.set2 | apply Ext.set3 | (refine Ext.setk ?_ (by omega) _) | (apply Ext.snoc; assumption))))); have HT := hide (HT.out.more Hw2.out (wr.heap.size) [.int .i64 (f : Int), .int .i64 (t : Int)] (by (rw [hw]; first | (simp [CellsAt, go_sem, *]; done) | (simp [CellsAt, go_sem, *]; omega)))); have Zw2 := hide (congrArg (fun z : World => z.heap.size) hw); clear hw kz0 kf0 kc0_0 kc0_1 kE; have kT := HT.out; simp only [Tr, Bx, CellsAt, Nat.reduceAdd, Nat.zero_add, and_true] at kT; obtain ⟨⟨⟨kz0, kf0, kc0_0, kc0_1⟩, ⟨kz1, kf1, kc1_0, kc1_1⟩⟩, kE⟩ := kT
              have HV := hide (show (spreadTo E (j + 1) s : Nat) = u by rw [HN.out, if_neg (by rw [HBF.out, HBT.out]; simp)])
              have hE5 := hide (HE2.out.trans Hw2.out)
              go_roundw
              case rel => exact ⟨j + 1, by omega, by go_num, by rw [HV.out], hE5⟩
              case measure => simp [intOf]; omega
        · 
          obtain rfl : j = E.length := by omega
          go_wp2_with fail
          have hE5 := hide (HE.out.trans HE2.out)
          go_roundw
          case rel => exact ⟨k + 1, by omega, by go_num, by rw [HI.out], hE5⟩
          case measure => simp [intOf]; omega
    · obtain rfl : k = N.length := by omega
      have HM := membersOf_any (it (spreadTo E E.length) N.length 1) N.length wr (HS.out _) (by omega)
      rw [memI_length] at HM
      go_wp2_with (go_at_call 125; refine HM.mono ?_; rintro e w5 ⟨A2, c2, rfl, _, hb5⟩)
      have hE5 := hide (kE.trans hb5)
      go_ret
      exact ⟨A2, c2, rfl, hE5.out⟩
end Go.Proofs.Ytkgbilbicdiadaa
namespace Go.Proofs.Ytkgbilbicdiadaa
open Go.RowKit

open Classical in
noncomputable def wholeB (N E : List P2) : Bool := decide (WinOk N E ∧ 0 < E.length ∧ Whole E N.length)
theorem wholeB_iff {N E : List P2} : wholeB N E = true ↔ WinOk N E ∧ 0 < E.length ∧ Whole E N.length := by simp [wholeB]
theorem wholeB_no {N E : List P2} (h : ¬ (WinOk N E ∧ 0 < E.length ∧ Whole E N.length)) : wholeB N E = false := by simp only [wholeB, decide_eq_false_iff_not]; exact h
set_option maxRecDepth 20000 in
set_option maxHeartbeats 4000000 in
theorem IsWhole_any (N E : List P2) (A B : Option Addr) (c c' : Nat) (w : World) (hw : WR w N E A B c c') :
    Calls Try.prog 81 #[.agg #[.slice A N.length c, .slice B E.length c']] w fun e w' => e = .returned (.bool (wholeB N E)) ∧ Ext w w' := by
  have hEl := hw.hE
  have hNl := hw.hN
  have HW := hide hw
  clear hw
  
  go_enter Try.func81, Try.ntmps81
  go_wp2_with fail
  obtain ⟨w0, hw⟩ : ∃ w1, w1 = w.alloc (Obj.cells #[Value.slice A N.length c, Value.slice B E.length c'] 27) := ⟨_, rfl⟩; rw [← hw]; have kT : Tr [(w.heap.size, [.slice A N.length c, .slice B E.length c'])] w w0 := (by rw [hw]; exact ⟨by (first | (simp [Bx, CellsAt, go_sem, *]; done) | (simp [Bx, CellsAt, go_sem, *]; omega)), by (repeat (first | exact kE | exact Ext.refl _ | apply Ext.alloc | apply Ext.drewN | apply Ext.drew | apply Ext.set0 | apply Ext.set1 | apply Ext.set2 | apply Ext.set3 | (refine Ext.setk ?_ (by omega) _) | (apply Ext.snoc; assumption)))⟩); have HT := hide kT; clear hw kT; have kT := HT.out; simp only [Tr, Bx, CellsAt, Nat.reduceAdd, Nat.zero_add, and_true] at kT; obtain ⟨⟨kz0, kf0, kc0_0, kc0_1⟩, kE⟩ := kT
  have HW0 := hide kE
  obtain ⟨v, hv⟩ : ∃ v, windowB N E = v := ⟨_, rfl⟩
  have HC := fun p : ExtBy w0 => WindowOk_any N E A B c c' p.w HW.out.hN HW.out.hE HW.out.hc HW.out.hd (HW.out.hr.ext (HW0.out.trans p.h)) (HW.out.hs.ext (HW0.out.trans p.h))
  rw [hv] at HC
  have HC := hide HC
  have HV := hide hv
  clear hv
  cases v with
  | false =>
    have kq0_0 := ExtBy.cell (W := w0) kz0 kc0_0; have kq0_1 := ExtBy.cell (W := w0) kz0 kc0_1; refine wp_region_quietE (by kernel_rfl) (by kernel_rfl) ?_; (repeat (refine WQ.step (fun K hK => ?_); have HK := hide hK; clear hK; go_simp; refine HK.out _ ?_; clear HK K)); (refine WQ.step (fun K hK => ?_); have HK := hide hK; clear hK; go_simp; apply Exists.intro; refine ⟨fun _ => ?_, HK.out _ ?_⟩; (go_at_call 136; refine extby_of (HC.out _)); clear HK K); (repeat (refine WQ.step (fun K hK => ?_); have HK := hide hK; clear hK; go_simp; refine HK.out _ ?_; clear HK K)); refine WQ.done ?_; intro w3 hw'; obtain ⟨⟨_, hw3⟩, hw''⟩ := hw'; subst hw''; clear kq0_0 kq0_1; have HT := hide (HT.out.ext hw3); have Hw3 := hide hw3; clear hw3 kz0 kf0 kc0_0 kc0_1 kE; have kT := HT.out; simp only [Tr, Bx, CellsAt, Nat.reduceAdd, Nat.zero_add, and_true] at kT; obtain ⟨⟨kz0, kf0, kc0_0, kc0_1⟩, kE⟩ := kT
    go_wp2_with fail
    go_ret
    exact ⟨ret_bool (by rw [wholeB_no]; intro h; have := windowB_iff.2 h.1; rw [HV.out] at this; cases this), HT.out.2⟩
  | true =>
    have HK := hide (windowB_iff.1 HV.out)
    by_cases hm : 0 < E.length
    · have hm' : decide ((E.length : Int) > 0) = true := decide_eq_true (by omega)
      have hm2 : (0 : Int) < (E.length : Int) := by omega
      have hn12 := HK.out.n
      have HP := hide (fun (W : World) (hE : Ext w W) => partOf_any N E A B c c' W (HW.out.ext hE) HK.out)
      have HC2 := hide (show ∀ W, Ext w0 W → Calls Try.prog 136 #[.agg #[.slice A N.length c, .slice B E.length c']] W fun x w' => x = .returned (.bool true) ∧ Ext W w' from fun W hE => HC.out ⟨W, hE⟩)
      go_region_held3 (fun w' => (∀ (q o : Nat), q < w0.heap.size → w'.cell? ⟨q, o, none⟩ = w0.cell? ⟨q, o, none⟩) ∧ Ext w0 w') ((apply ExtS; repeat (first | exact kE | exact Ext.refl _ | apply Ext.alloc | apply Ext.drewN | apply Ext.drew | apply Ext.set0 | apply Ext.set1 | apply Ext.set2 | apply Ext.set3 | (refine Ext.setk ?_ (by omega) _) | (apply Ext.snoc; assumption)))) ((first | (go_at_call 136; refine (HC2.out _ (by clear kE; repeat (first | exact kE | exact Ext.refl _ | apply Ext.alloc | apply Ext.drewN | apply Ext.drew | apply Ext.set0 | apply Ext.set1 | apply Ext.set2 | apply Ext.set3 | (refine Ext.setk ?_ (by omega) _) | (apply Ext.snoc; assumption)))).mono ?_; rintro e w3 ⟨rfl, hb3⟩)  |  (go_at_call 137; refine (HP.out _ (HW0.out.trans (by clear kE; repeat (first | exact kE | exact Ext.refl _ | apply Ext.alloc | apply Ext.drewN | apply Ext.drew | apply Ext.set0 | apply Ext.set1 | apply Ext.set2 | apply Ext.set3 | (refine Ext.setk ?_ (by omega) _) | (apply Ext.snoc; assumption))))).mono ?_; rintro e w5 ⟨A2, c2, rfl, hb5⟩)))
      have hE5 := hide (HW0.out.trans (((Ext.refl w0).drew.trans hb3).trans hb5))
      have HS := hide (whole_spread (E := E) (by have := HK.out.n; omega : 0 < N.length) HK.out.ends_lt)
      clear hb3 hb5
      go_wp2_with fail
      go_ret
      refine ⟨ret_bool ?_, hE5.out⟩
      rw [Bool.eq_iff_iff, wholeB_iff, beq_iff_eq]
      constructor
      · intro h; exact ⟨HK.out, hm, HS.out.1 (by omega)⟩
      · rintro ⟨_, _, h⟩; have := HS.out.2 h; omega
    · have hm' : decide ((E.length : Int) > 0) = false := decide_eq_false (by omega)
      have hm2 : decide ((0 : Int) < (E.length : Int)) = false := decide_eq_false (by omega)
      have hm3 : decide (0 < E.length) = false := decide_eq_false hm
      have HM := hide hm
      clear hm
      have kq0_0 := ExtBy.cell (W := w0) kz0 kc0_0; have kq0_1 := ExtBy.cell (W := w0) kz0 kc0_1; refine wp_region_quietE (by kernel_rfl) (by kernel_rfl) ?_; (repeat (refine WQ.step (fun K hK => ?_); have HK := hide hK; clear hK; go_simp; refine HK.out _ ?_; clear HK K)); (refine WQ.step (fun K hK => ?_); have HK := hide hK; clear hK; go_simp; apply Exists.intro; refine ⟨fun _ => ?_, HK.out _ ?_⟩; (go_at_call 136; refine extby_of (HC.out _)); clear HK K); (repeat (refine WQ.step (fun K hK => ?_); have HK := hide hK; clear hK; go_simp; refine HK.out _ ?_; clear HK K)); refine WQ.done ?_; intro w3 hw'; obtain ⟨⟨_, hw3⟩, hw''⟩ := hw'; subst hw''; clear kq0_0 kq0_1; have HT := hide (HT.out.ext hw3); have Hw3 := hide hw3; clear hw3 kz0 kf0 kc0_0 kc0_1 kE; have kT := HT.out; simp only [Tr, Bx, CellsAt, Nat.reduceAdd, Nat.zero_add, and_true] at kT; obtain ⟨⟨kz0, kf0, kc0_0, kc0_1⟩, kE⟩ := kT
      go_wp2_with fail
      go_ret
      exact ⟨ret_bool (by rw [wholeB_no]; intro h; exact HM.out h.2.1), HT.out.2⟩
end Go.Proofs.Ytkgbilbicdiadaa
