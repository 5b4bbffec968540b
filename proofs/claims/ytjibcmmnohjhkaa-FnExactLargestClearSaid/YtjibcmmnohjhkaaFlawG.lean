/- The walk of the reference's FirstClear. No condition but that a list has at most 1048576 elements. -/
import Derived.Test.YtjibcmmnohjhkaaFlawF
namespace Go.Proofs.Ytjibcmmnohjhkaa
open Go.RowKit

def badTo (l : List P2) (a p : P2) (k : Nat) : Bool := (l.take k).any (fun s => lies s a p)
theorem badTo_succ {l : List P2} {a p : P2} {k : Nat} (h : k < l.length) : badTo l a p (k + 1) = (badTo l a p k || lies l[k] a p) := by
  unfold badTo
  rw [List.take_succ_eq_append_getElem h]; simp only [List.any_append, List.any_cons, List.any_nil, Bool.or_false]
theorem badTo_all {l : List P2} {a p : P2} : badTo l a p l.length = !(l.all (fun s => !lies s a p)) := by
  unfold badTo
  rw [List.take_of_length_le (Nat.le_refl _), Bool.eq_iff_iff]
  simp
set_option maxHeartbeats 2000000 in
theorem sFirstClear_any (W H : Int) (l : List P2) (A : Option Addr) (c : Nat) (p0 p1 a b : Int) (ok : Bool) (w : World) (hl : l.length ≤ 1048576) (hr : R2 w A l) (hv : FC W H l (p0, p1) a b ok) :
    Calls Try.prog 26 #[.agg #[.int .i64 W, .int .i64 H, .slice A l.length c], .agg #[.int .i64 p0, .int .i64 p1]] w fun e w' => e = .returned (.tuple #[.agg #[.int .i64 a, .int .i64 b], .bool ok]) ∧ Ext w w' := by
  have HR := hide hr
  have HV := hide hv
  clear hr hv
  
  go_enter Try.func26, Try.ntmps26
  go_wp2_with fail
  obtain ⟨w1, hw⟩ : ∃ w1, w1 = (((w.alloc (Obj.cells #[Value.int IntKind.i64 W, Value.int IntKind.i64 H, Value.slice A l.length c] 35)).alloc (Obj.cells #[Value.int IntKind.i64 p0, Value.int IntKind.i64 p1] 25)).alloc (Obj.cells #[Value.int IntKind.i64 0, Value.int IntKind.i64 0] 42)) := ⟨_, rfl⟩; rw [← hw]; have kT : Tr [(w.heap.size, [.int .i64 W, .int .i64 H, .slice A l.length c]), (w.heap.size + 1, [.int .i64 p0, .int .i64 p1]), (w.heap.size + 1 + 1, [.int .i64 0, .int .i64 0])] w w1 := (by rw [hw]; exact ⟨by (first | (simp [Bx, CellsAt, go_sem, *]; done) | (simp [Bx, CellsAt, go_sem, *]; omega)), by (repeat (first | exact kE | exact Ext.refl _ | apply Ext.alloc | apply Ext.drewN | apply Ext.drew | apply Ext.set0 | apply Ext.set1 | apply Ext.set2 | apply Ext.set3 | (refine Ext.setk ?_ (by omega) _) | (apply Ext.snoc; assumption)))⟩); have HT := hide kT; clear hw kT; have kT := HT.out; simp only [Tr, Bx, CellsAt, Nat.reduceAdd, Nat.zero_add, and_true] at kT; obtain ⟨⟨⟨kz0, kf0, kc0_0, kc0_1, kc0_2⟩, ⟨kz1, kf1, kc1_0, kc1_1⟩, ⟨kz2, kf2, kc2_0, kc2_1⟩⟩, kE⟩ := kT
  refine (sFlawedOk_any W H l A c _ hl (HR.out.ext kE)).mono ?_; rintro e w2 ⟨rfl, hb⟩; have HT := hide (HT.out.ext hb); have Hw2 := hide hb; clear hb; clear kz0 kf0 kc0_0 kc0_1 kc0_2 kz1 kf1 kc1_0 kc1_1 kz2 kf2 kc2_0 kc2_1 kE; have kT := HT.out; simp only [Tr, Bx, CellsAt, Nat.reduceAdd, Nat.zero_add, and_true] at kT; obtain ⟨⟨⟨kz0, kf0, kc0_0, kc0_1, kc0_2⟩, ⟨kz1, kf1, kc1_0, kc1_1⟩, ⟨kz2, kf2, kc2_0, kc2_1⟩⟩, kE⟩ := kT
  by_cases h1 : flawedOk W H l = true
  · have B1 := sheetOk_true (flawed_sheet h1)
    go_wp2_with fail
    refine (sSheetOk_any _ _ _).mono ?_; rintro e w3 ⟨rfl, hb⟩; have HT := hide (HT.out.ext hb); have Hw3 := hide hb; clear hb; clear kz0 kf0 kc0_0 kc0_1 kc0_2 kz1 kf1 kc1_0 kc1_1 kz2 kf2 kc2_0 kc2_1 kE; have kT := HT.out; simp only [Tr, Bx, CellsAt, Nat.reduceAdd, Nat.zero_add, and_true] at kT; obtain ⟨⟨⟨kz0, kf0, kc0_0, kc0_1, kc0_2⟩, ⟨kz1, kf1, kc1_0, kc1_1⟩, ⟨kz2, kf2, kc2_0, kc2_1⟩⟩, kE⟩ := kT
    by_cases h2 : sheetOk p0 p1 = true
    · have B2 := sheetOk_true h2
      go_wp2_with fail
      clear kz0 kf0 kc0_0 kc0_1 kc0_2 kz1 kf1 kc1_0 kc1_1 kz2 kf2 kc2_0 kc2_1 kE
      go_loopw [6] (fun i wr => ∃ k : Nat, k ≤ (H - p1 + 1).toNat ∧ i = .int .i64 k ∧ Hid (∀ x y : Int, y < k → clearB W H l (x, y) (p0, p1) = false) ∧ Ext w3 wr) (fun i _ => (H - p1 + 1).toNat - (intOf i).toNat)
      case atStart => exact ⟨0, Nat.zero_le _, rfl, hide (fun x y hy => clearB_out (by omega)), Ext.refl _⟩
      case round =>
        obtain ⟨k, hk, rfl, hp, hE⟩ := hrel
        have HE0 := hide hE
        have HT := hide (HT.out.ext hE); clear hE; have kT := HT.out; simp only [Tr, Bx, CellsAt, Nat.reduceAdd, Nat.zero_add, and_true] at kT; obtain ⟨⟨⟨kz0, kf0, kc0_0, kc0_1, kc0_2⟩, ⟨kz1, kf1, kc1_0, kc1_1⟩, ⟨kz2, kf2, kc2_0, kc2_1⟩⟩, kE⟩ := kT
        by_cases hlt : (k : Int) ≤ H - p1
        · obtain ⟨wo, rfl⟩ : ∃ wo : World, wo = wr := ⟨_, rfl⟩
          go_wp2_with fail
          clear kz0 kf0 kc0_0 kc0_1 kc0_2 kz1 kf1 kc1_0 kc1_1 kz2 kf2 kc2_0 kc2_1 kE
          go_loopw [7] (fun i wi => ∃ j : Nat, j ≤ (W - p0 + 1).toNat ∧ i = .int .i64 j ∧ Hid (∀ x : Int, x < j → clearB W H l (x, k) (p0, p1) = false) ∧ Ext wo wi) (fun i _ => (W - p0 + 1).toNat - (intOf i).toNat)
          case atStart => exact ⟨0, Nat.zero_le _, rfl, hide (fun x hy => clearB_out (by omega)), Ext.refl _⟩
          case round =>
            obtain ⟨j, hj, rfl, hq, hE⟩ := hrel
            have HI := hide hE
            have HT := hide (HT.out.ext hE); clear hE; have kT := HT.out; simp only [Tr, Bx, CellsAt, Nat.reduceAdd, Nat.zero_add, and_true] at kT; obtain ⟨⟨⟨kz0, kf0, kc0_0, kc0_1, kc0_2⟩, ⟨kz1, kf1, kc1_0, kc1_1⟩, ⟨kz2, kf2, kc2_0, kc2_1⟩⟩, kE⟩ := kT
            by_cases hlt2 : (j : Int) ≤ W - p0
            · go_wp2_with fail
              obtain ⟨w4, hw⟩ : ∃ w1, w1 = wr.alloc (Obj.cells #[Value.int IntKind.i64 j, Value.int IntKind.i64 k] 42) := ⟨_, rfl⟩; rw [← hw]; have Hw4 := hide (show Ext wr w4 from (by (rw [hw]; (try clear kE); repeat (first | exact kE | exact Ext.refl _ | apply Ext.alloc | apply Ext.drewN | apply Ext.drew | apply Ext.set0 | apply Ext.set1 | apply Ext.set2 | apply Ext.set3 | (refine Ext.setk ?_ (by omega) _) | (apply Ext.snoc; assumption))))); have HT := hide (HT.out.more Hw4.out (wr.heap.size) [.int .i64 j, .int .i64 k] (by (rw [hw]; first | (simp [CellsAt, go_sem, *]; done) | (simp [CellsAt, go_sem, *]; omega)))); clear hw kz0 kf0 kc0_0 kc0_1 kc0_2 kz1 kf1 kc1_0 kc1_1 kz2 kf2 kc2_0 kc2_1 kE; have kT := HT.out; simp only [Tr, Bx, CellsAt, Nat.reduceAdd, Nat.zero_add, and_true] at kT; obtain ⟨⟨⟨kz0, kf0, kc0_0, kc0_1⟩, ⟨kz1, kf1, kc1_0, kc1_1, kc1_2⟩, ⟨kz2, kf2, kc2_0, kc2_1⟩, ⟨kz3, kf3, kc3_0, kc3_1⟩⟩, kE⟩ := kT
              obtain ⟨wm, rfl⟩ : ∃ wm : World, wm = wr := ⟨_, rfl⟩
              clear kz0 kf0 kc0_0 kc0_1 kz1 kf1 kc1_0 kc1_1 kc1_2 kz2 kf2 kc2_0 kc2_1 kz3 kf3 kc3_0 kc3_1 kE
              go_loopw [9, 10] (fun f i wi => ∃ m : Nat, m ≤ l.length ∧ i = .int .i64 m ∧ f = .bool (badTo l (j, k) (p0, p1) m) ∧ Ext w4 wi) (fun _ i _ => l.length - (intOf i).toNat)
              case atStart => exact ⟨0, Nat.zero_le _, rfl, by simp [badTo], Ext.refl _⟩
              case round =>
                obtain ⟨m, hm, rfl, rfl, hE⟩ := hrel
                have HM := hide hE
                have HT := hide (HT.out.ext hE); clear hE; have kT := HT.out; simp only [Tr, Bx, CellsAt, Nat.reduceAdd, Nat.zero_add, and_true] at kT; obtain ⟨⟨⟨kz0, kf0, kc0_0, kc0_1⟩, ⟨kz1, kf1, kc1_0, kc1_1, kc1_2⟩, ⟨kz2, kf2, kc2_0, kc2_1⟩, ⟨kz3, kf3, kc3_0, kc3_1⟩⟩, kE⟩ := kT
                by_cases hlt3 : m < l.length
                · have hs := spot_small h1 hlt3
                  obtain ⟨g, off, rfl, hb, e0, e1⟩ := R2.at_ (HR.out.ext kE) hlt3
                  have HS := hide (badTo_succ (a := ((j : Int), (k : Int))) (p := (p0, p1)) hlt3)
                  by_cases hbad : badTo l ((j : Int), (k : Int)) (p0, p1) m = true
                  · go_wp2_with fail
                    apply wp_region_RL 11 65 (by kernel_rfl) (by kernel_rfl) (by kernel_rfl) (by kernel_rfl) (by kernel_rfl) (by kernel_rfl) rfl [fun v _ => v = _, fun v _ => v = _, fun v _ => v = _, fun v _ => v = _, fun v _ => v = _, fun v _ => v = _, fun v _ => v = _, fun v _ => v = _, fun v _ => v = _, fun v _ => v = _, fun v _ => v = _] rfl ⟨stab_eq _, stab_eq _, stab_eq _, stab_eq _, stab_eq _, stab_eq _, stab_eq _, stab_eq _, stab_eq _, stab_eq _, stab_eq _, trivial⟩ ?Xhop ?Xfin
                    case Xhop =>
                      intro a w' hE hA
                      have hc := hE.facts.1
                      have hz := hE.facts.2.2
                      refine ⟨⟨⟨⟨⟨⟨⟨⟨⟨⟨⟨trivial, ?_⟩, ?_⟩, ?_⟩, ?_⟩, ?_⟩, ?_⟩, ?_⟩, ?_⟩, ?_⟩, ?_⟩, ?_⟩
                      · intro hp
                        have s9 := hA 9 (by rfl)
                        simp [sl] at s9
                        clear hp
                        refine wpOp_of_list rfl rfl ?_
                        go_wp2_with fail
                        exact ⟨_, rfl, rfl, (by repeat (first | exact kE | exact Ext.refl _ | apply Ext.alloc | apply Ext.drewN | apply Ext.drew | apply Ext.set0 | apply Ext.set1 | apply Ext.set2 | apply Ext.set3 | (refine Ext.setk ?_ (by omega) _) | (apply Ext.snoc; assumption)))⟩
                      · intro hp
                        have s50 := hp 0 (by rfl)
                        change a.tmps.getD 50 undef = _ at s50
                        simp at s50
                        clear hp
                        refine wpOp_of_list rfl rfl ?_
                        go_wp2_with fail
                        exact ⟨_, rfl, rfl, (by repeat (first | exact kE | exact Ext.refl _ | apply Ext.alloc | apply Ext.drewN | apply Ext.drew | apply Ext.set0 | apply Ext.set1 | apply Ext.set2 | apply Ext.set3 | (refine Ext.setk ?_ (by omega) _) | (apply Ext.snoc; assumption)))⟩
                      · intro hp
                        have sg := hp 1 (by rfl)
                        exact wpOp_skipR rfl (wanted_no rfl (yielded_at rfl sg) rfl) rfl
                      · intro hp
                        have sg := hp 1 (by rfl)
                        exact wpOp_skipR rfl (wanted_no rfl (yielded_at rfl sg) rfl) rfl
                      · intro hp
                        have sg := hp 1 (by rfl)
                        exact wpOp_skipR rfl (wanted_no rfl (yielded_at rfl sg) rfl) rfl
                      · intro hp
                        have sg := hp 1 (by rfl)
                        exact wpOp_skipR rfl (wanted_no rfl (yielded_at rfl sg) rfl) rfl
                      · intro hp
                        have sg := hp 1 (by rfl)
                        exact wpOp_skipR rfl (wanted_no rfl (yielded_at rfl sg) rfl) rfl
                      · intro hp
                        have sg := hp 1 (by rfl)
                        exact wpOp_skipR rfl (wanted_no rfl (yielded_at rfl sg) rfl) rfl
                      · intro hp
                        have sg := hp 1 (by rfl)
                        exact wpOp_skipR rfl (wanted_no rfl (yielded_at rfl sg) rfl) rfl
                      · intro hp
                        have sg := hp 1 (by rfl)
                        exact wpOp_skipR rfl (wanted_no rfl (yielded_at rfl sg) rfl) rfl
                      · intro hp
                        have s51 := hp 1 (by rfl)
                        change a.tmps.getD 51 undef = _ at s51
                        simp at s51
                        have s59 := hp 9 (by rfl)
                        change a.tmps.getD 59 undef = _ at s59
                        simp at s59
                        clear hp
                        refine wpOp_of_list rfl rfl ?_
                        go_wp2_with fail
                        exact ⟨_, rfl, rfl, (by repeat (first | exact kE | exact Ext.refl _ | apply Ext.alloc | apply Ext.drewN | apply Ext.drew | apply Ext.set0 | apply Ext.set1 | apply Ext.set2 | apply Ext.set3 | (refine Ext.setk ?_ (by omega) _) | (apply Ext.snoc; assumption)))⟩
                    case Xfin =>
                      intro X w' hE hp
                      obtain ⟨⟨⟨⟨⟨⟨⟨⟨⟨⟨⟨_, h0⟩, h1⟩, h2⟩, h3⟩, h4⟩, h5⟩, h6⟩, h7⟩, h8⟩, h9⟩, h10⟩ := hp
                      change X 0 = _ at h0
                      change X 1 = _ at h1
                      change X 2 = _ at h2
                      change X 3 = _ at h3
                      change X 4 = _ at h4
                      change X 5 = _ at h5
                      change X 6 = _ at h6
                      change X 7 = _ at h7
                      change X 8 = _ at h8
                      change X 9 = _ at h9
                      change X 10 = _ at h10
                      simp only [List.drop_succ_cons, List.drop_zero]
                      go_simp
                      go_wp2
                      go_roundw
                      case rel => exact ⟨m + 1, by omega, by go_num, by rw [HS.out, hbad]; rfl, HM.out.trans hE⟩
                      case measure => simp [intOf]; omega
                  · have hbad' : badTo l ((j : Int), (k : Int)) (p0, p1) m = false := by simpa using hbad
                    clear hbad
                    go_wp2_with fail
                    go_region_held3 (fun w' => (∀ (q o : Nat), q < wr.heap.size → w'.cell? ⟨q, o, none⟩ = wr.cell? ⟨q, o, none⟩) ∧ Ext wr w') ((apply ExtS; repeat (first | exact kE | exact Ext.refl _ | apply Ext.alloc | apply Ext.drewN | apply Ext.drew | apply Ext.set0 | apply Ext.set1 | apply Ext.set2 | apply Ext.set3 | (refine Ext.setk ?_ (by omega) _) | (apply Ext.snoc; assumption)))) ((first | (go_at_call 56; refine (l21Inside_any _ _ _ _ _ _ _ (by omega) (by omega)).mono ?_; rintro e w5 ⟨rfl, hb5⟩)))
                    go_wp2
                    go_roundw
                    case rel => exact ⟨m + 1, by omega, by go_num, by rw [HS.out, hbad', Bool.false_or], by have hE := HM.out; clear kE; repeat (first | exact kE | exact Ext.refl _ | apply Ext.alloc | apply Ext.drewN | apply Ext.drew | apply Ext.set0 | apply Ext.set1 | apply Ext.set2 | apply Ext.set3 | (refine Ext.setk ?_ (by omega) _) | (apply Ext.snoc; assumption))⟩
                    case measure => simp [intOf]; omega
                · obtain rfl : m = l.length := by omega
                  have hbc : badTo l ((j : Int), (k : Int)) (p0, p1) l.length = !clearB W H l ((j : Int), (k : Int)) (p0, p1) := by
                    rw [badTo_all]
                    have a1 : inR j 0 (W - p0) = true := by simp [inR]; omega
                    have a2 : inR k 0 (H - p1) = true := by simp [inR]; omega
                    simp [clearB, h1, h2, a1, a2]
                  rw [hbc]
                  clear hbc
                  by_cases hc : clearB W H l ((j : Int), (k : Int)) (p0, p1) = true
                  · obtain ⟨rfl, rfl, rfl⟩ := HV.out.some hc (fun x y hxy => by
                      rcases hxy with h | ⟨h, h'⟩
                      · exact hp.out x y h
                      · rw [h]; exact hq.out x h')
                    go_wp2_with fail
                    refine bodyPost_ret (v := .tuple #[.agg #[.int .i64 j, .int .i64 k], .bool true]) (by simp only [results, Try.results26]; go_simp) rfl ⟨?_, ?_⟩
                    · rfl
                    · repeat (first | exact kE | exact Ext.refl _ | apply Ext.alloc | apply Ext.drewN | apply Ext.drew | apply Ext.set0 | apply Ext.set1 | apply Ext.set2 | apply Ext.set3 | (refine Ext.setk ?_ (by omega) _) | (apply Ext.snoc; assumption))
                  · have hc' : clearB W H l ((j : Int), (k : Int)) (p0, p1) = false := by simpa using hc
                    have HC := hide hc'
                    clear hc
                    go_wp2_with fail
                    clear hc'
                    go_roundw
                    case rel => exact ⟨j + 1, by omega, by go_num, hide (fun x hx => by
                      by_cases e : x = j
                      · rw [e]; exact HC.out
                      · exact hq.out x (by omega)), (HI.out.trans Hw4.out).trans HM.out⟩
                    case measure => simp [intOf]; omega
            · 
              go_wp2_with fail
              go_roundw
              case rel => exact ⟨k + 1, by omega, by go_num, hide (fun x y hy => by
                  by_cases e : y < k
                  · exact hp.out x y e
                  · obtain rfl : y = k := by omega
                    by_cases ex : x < j
                    · exact hq.out x ex
                    · exact clearB_out (fun hh => by omega)), HE0.out.trans HI.out⟩
              case measure => simp [intOf]; omega
        · go_wp2_with fail
          obtain ⟨rfl, rfl, rfl⟩ := HV.out.none (fun x y => by
            by_cases e : y < k
            · exact hp.out x y e
            · exact clearB_out (fun hh => by omega))
          refine bodyPost_ret (v := .tuple #[.agg #[.int .i64 0, .int .i64 0], .bool false]) (by simp only [results, Try.results26]; go_simp) rfl ⟨?_, ?_⟩
          · rfl
          · repeat (first | exact kE | exact Ext.refl _ | apply Ext.alloc | apply Ext.drewN | apply Ext.drew | apply Ext.set0 | apply Ext.set1 | apply Ext.set2 | apply Ext.set3 | (refine Ext.setk ?_ (by omega) _) | (apply Ext.snoc; assumption))
    · have h2' : sheetOk p0 p1 = false := by simpa using h2
      obtain ⟨rfl, rfl, rfl⟩ := HV.out.none (fun x y => clearB_out (fun hh => h2 hh.2.1))
      clear h2
      go_wp2_with fail
      refine bodyPost_ret (v := .tuple #[.agg #[.int .i64 0, .int .i64 0], .bool false]) (by simp only [results, Try.results26]; go_simp) rfl ⟨?_, ?_⟩
      · rfl
      · repeat (first | exact kE | exact Ext.refl _ | apply Ext.alloc | apply Ext.drewN | apply Ext.drew | apply Ext.set0 | apply Ext.set1 | apply Ext.set2 | apply Ext.set3 | (refine Ext.setk ?_ (by omega) _) | (apply Ext.snoc; assumption))
  · have h1' : flawedOk W H l = false := by simpa using h1
    obtain ⟨rfl, rfl, rfl⟩ := HV.out.none (fun x y => clearB_out (fun hh => h1 hh.1))
    clear h1
    go_wp2_with fail
    refine bodyPost_ret (v := .tuple #[.agg #[.int .i64 0, .int .i64 0], .bool false]) (by simp only [results, Try.results26]; go_simp) rfl ⟨?_, ?_⟩
    · rfl
    · repeat (first | exact kE | exact Ext.refl _ | apply Ext.alloc | apply Ext.drewN | apply Ext.drew | apply Ext.set0 | apply Ext.set1 | apply Ext.set2 | apply Ext.set3 | (refine Ext.setk ?_ (by omega) _) | (apply Ext.snoc; assumption))
end Go.Proofs.Ytjibcmmnohjhkaa
