/- Words and walks for the law FnMatches, a part of them. No condition but that the arguments lie in memory. -/
import Derived.Test.YtabgcpoaepafjaaGreatU2
import Derived.Test.YtabgcpoaepafjaaGreatU3
import Derived.Test.YtabgcpoaepafjaaGreatU7
import Derived.Test.YtabgcpoaepafjaaGreatU8
set_option linter.unusedVariables false
set_option linter.unusedSimpArgs false
namespace Go.Proofs.YtabgcpoaepafjaaGreat
open Go.RowKit
set_option maxRecDepth 20000 in
set_option maxHeartbeats 8000000 in
theorem WindowOk_any (N E : List P2) (A B : Option Addr) (c d : Nat) (w : World) (hN : N.length ≤ 1048576) (hE' : E.length ≤ 1048576) (hc : N.length ≤ c) (hd : E.length ≤ d) (hr : R2 w A N) (hs : R2 w B E) :
    Calls Tryz.prog 115 #[.agg #[.slice A N.length c, .slice B E.length d]] w fun x w' => x = .returned (.bool (windowB N E)) ∧ Ext w w' := by
  have HR := hide hr
  have HS := hide hs
  clear hr hs
  
  go_enter Tryz.func115, Tryz.ntmps115
  by_cases hn : inR (N.length : Int) 1 12 = true
  · have hn' := inR_true hn
    by_cases hm : E.length ≤ 20
    · have hm20 : decide ((20 : Int) < (E.length : Int)) = false := decide_eq_false (by omega)
      go_wp2_with (first | (go_at_call 67; refine (within_any _ _ _ _).mono ?_; rintro e w' ⟨rfl, rfl⟩))
      refine (nodesOk_any N A c _ hN (HR.out.ext (by repeat (first | exact kE | exact Ext.refl _ | apply Ext.alloc | apply Ext.drewN | apply Ext.drew | apply Ext.set0 | apply Ext.set1 | apply Ext.set2 | apply Ext.set3 | (refine Ext.setk ?_ (by omega) _) | (apply Ext.snoc; assumption))))).mono ?_; rintro e w1 ⟨rfl, hb⟩; have Hw1 := hide hb; have HT := hide (show Tr [(w.heap.size, [.slice A N.length c, .slice B E.length d])] w w1 from Tr.ext ⟨by (first | (simp [Bx, CellsAt, go_sem, *]; done) | (simp [Bx, CellsAt, go_sem, *]; omega)), by (repeat (first | exact kE | exact Ext.refl _ | apply Ext.alloc | apply Ext.drewN | apply Ext.drew | apply Ext.set0 | apply Ext.set1 | apply Ext.set2 | apply Ext.set3 | (refine Ext.setk ?_ (by omega) _) | (apply Ext.snoc; assumption)))⟩ hb); clear hb; have kT := HT.out; simp only [Tr, Bx, CellsAt, Nat.reduceAdd, Nat.zero_add, and_true] at kT; obtain ⟨⟨kz0, kf0, kc0_0, kc0_1⟩, kE⟩ := kT
      by_cases ha : N.all nodeOk = true
      · rw [ha]
        have HA := hide ha
        clear ha
        go_wp2_with fail
        have HZ := HT
        clear kz0 kf0 kc0_0 kc0_1 kE
        go_loopw [31] (fun i wr => ∃ k : Nat, k ≤ N.length ∧ i = .int .i64 k ∧ Hid (NodesTo N k) ∧ Ext w1 wr) (fun i _ => N.length - (intOf i).toNat)
        case atStart => exact ⟨0, Nat.zero_le _, rfl, hide (NodesTo.zero N), Ext.refl _⟩
        case round =>
          obtain ⟨k, hk, rfl, hp, hE⟩ := hrel
          have HE := hide hE
          have HT := hide (HT.out.ext hE); clear hE; have kT := HT.out; simp only [Tr, Bx, CellsAt, Nat.reduceAdd, Nat.zero_add, and_true] at kT; obtain ⟨⟨kz0, kf0, kc0_0, kc0_1⟩, kE⟩ := kT
          by_cases hlt : k < N.length
          · obtain ⟨b, off, rfl, hb, e0, e1⟩ := R2.at_ (HR.out.ext kE) hlt
            have x0 : (0 : Int) ≤ (k : Int) := by omega
            have x1 : (k : Int) ≤ (c : Int) := by omega
            have x2 : (k : Int) < (N.length : Int) := by omega
            obtain ⟨⟨a1, a2⟩, na⟩ : ∃ q : P2, N[k] = q := ⟨_, rfl⟩
            rw [na] at e0 e1
            dsimp only at e0 e1
            have NA := hide na
            clear na
            go_wp2_with fail
            obtain ⟨w2, hw⟩ : ∃ w1, w1 = wr.alloc (Obj.cells #[Value.int IntKind.i64 a1, Value.int IntKind.i64 a2] 84) := ⟨_, rfl⟩; rw [← hw]; have Hw2 := hide (show Ext wr w2 from (by (rw [hw]; (try clear kE); repeat (first | exact kE | exact Ext.refl _ | apply Ext.alloc | apply Ext.drewN | apply Ext.drew | apply Ext.set0 | apply Ext.set1 | apply Ext.set2 | apply Ext.set3 | (refine Ext.setk ?_ (by omega) _) | (apply Ext.snoc; assumption))))); have HT := hide (HT.out.more Hw2.out (wr.heap.size) [.int .i64 a1, .int .i64 a2] (by (rw [hw]; first | (simp [CellsAt, go_sem, *]; done) | (simp [CellsAt, go_sem, *]; omega)))); have Zw2 := hide (congrArg (fun z : World => z.heap.size) hw); clear hw kz0 kf0 kc0_0 kc0_1 kE; have kT := HT.out; simp only [Tr, Bx, CellsAt, Nat.reduceAdd, Nat.zero_add, and_true] at kT; obtain ⟨⟨⟨kz0, kf0, kc0_0, kc0_1⟩, ⟨kz1, kf1, kc1_0, kc1_1⟩⟩, kE⟩ := kT
            clear e0 e1
            obtain ⟨v, hv⟩ : ∃ v, decide ((a1, a2) ∈ N.take k) = v := ⟨_, rfl⟩
            have HC := fun p : ExtBy w2 => ContainsTake_any N (some ⟨b, off, none⟩) k c a1 a2 p.w hN hk (HR.out.ext (kE.trans p.h))
            rw [hv] at HC
            have HC := hide HC
            have kq0_0 := ExtBy.cell (W := w2) kz0 kc0_0; have kq0_1 := ExtBy.cell (W := w2) kz0 kc0_1; have kq1_0 := ExtBy.cell (W := w2) kz1 kc1_0; have kq1_1 := ExtBy.cell (W := w2) kz1 kc1_1; refine wp_region_quietE (by kernel_rfl) (by kernel_rfl) ?_; (repeat (refine WQ.step (fun K hK => ?_); have HK := hide hK; clear hK; go_simp; refine HK.out _ ?_; clear HK K)); (refine WQ.step (fun K hK => ?_); have HK := hide hK; clear hK; go_simp; apply Exists.intro; refine ⟨fun _ => ?_, HK.out _ ?_⟩; (go_at_call 131; refine extby_of (HC.out _)); clear HK K); (repeat (refine WQ.step (fun K hK => ?_); have HK := hide hK; clear hK; go_simp; refine HK.out _ ?_; clear HK K)); refine WQ.done ?_; intro w3 hw'; obtain ⟨⟨_, hw3⟩, hw''⟩ := hw'; subst hw''; clear kq0_0 kq0_1 kq1_0 kq1_1; have HT := hide (HT.out.ext hw3); have Hw3 := hide hw3; clear hw3 kz0 kf0 kc0_0 kc0_1 kz1 kf1 kc1_0 kc1_1 kE; have kT := HT.out; simp only [Tr, Bx, CellsAt, Nat.reduceAdd, Nat.zero_add, and_true] at kT; obtain ⟨⟨⟨kz0, kf0, kc0_0, kc0_1⟩, ⟨kz1, kf1, kc1_0, kc1_1⟩⟩, kE⟩ := kT
            cases v with
            | true =>
              go_wp2_with fail
              go_ret
              exact ⟨ret_bool (by rw [windowB_no]; intro h; exact NodesTo.dup hlt (by rw [NA.out]; exact of_decide_eq_true hv) h.nodes), HT.out.2⟩
            | false =>
              have HV := hide hv
              clear hv
              go_wp2_with fail
              have hE3 := HE.out.trans (Hw2.out.trans Hw3.out)
              go_roundw
              case rel => exact ⟨k + 1, by omega, by go_num, hide (hp.out.next hlt HA.out (by rw [NA.out]; exact of_decide_eq_false HV.out)), hE3⟩
              case measure => simp [intOf]; omega
          · obtain rfl : k = N.length := by omega
            have HN := hp
            
            obtain ⟨wm, rfl⟩ : ∃ wm : World, wm = wr := ⟨_, rfl⟩
            go_wp2_with fail
            clear kz0 kf0 kc0_0 kc0_1 kE
            go_loopw [46] (fun i wi => ∃ k : Nat, k ≤ E.length ∧ i = .int .i64 k ∧ Hid (LeadsTo N E k) ∧ Ext wm wi) (fun i _ => E.length - (intOf i).toNat)
            case atStart => exact ⟨0, Nat.zero_le _, rfl, hide (LeadsTo.zero N E), Ext.refl _⟩
            case round =>
              obtain ⟨k, hk, rfl, hp, hE⟩ := hrel
              have HE2 := hide hE
              have HT := hide (HT.out.ext hE); clear hE; have kT := HT.out; simp only [Tr, Bx, CellsAt, Nat.reduceAdd, Nat.zero_add, and_true] at kT; obtain ⟨⟨kz0, kf0, kc0_0, kc0_1⟩, kE⟩ := kT
              by_cases hlt : k < E.length
              · obtain ⟨b, off, rfl, hb, e0, e1⟩ := R2.at_ (HS.out.ext kE) hlt
                have x0 : (0 : Int) ≤ (k : Int) := by omega
                have x1 : (k : Int) ≤ (d : Int) := by omega
                have x2 : (k : Int) < (E.length : Int) := by omega
                obtain ⟨⟨f, t⟩, nl⟩ : ∃ q : P2, E[k] = q := ⟨_, rfl⟩
                rw [nl] at e0 e1
                dsimp only at e0 e1
                have NL : Hid (at2 E k = (f, t)) := hide (by rw [at2_eq hlt, nl])
                clear nl
                obtain ⟨wo, rfl⟩ : ∃ wo : World, wo = wr := ⟨_, rfl⟩
                go_wp2_with fail
                obtain ⟨w2, hw⟩ : ∃ w1, w1 = wo.alloc (Obj.cells #[Value.int IntKind.i64 f, Value.int IntKind.i64 t] 110) := ⟨_, rfl⟩; rw [← hw]; have Hw2 := hide (show Ext wo w2 from (by (rw [hw]; (try clear kE); repeat (first | exact kE | exact Ext.refl _ | apply Ext.alloc | apply Ext.drewN | apply Ext.drew | apply Ext.set0 | apply Ext.set1 | apply Ext.set2 | apply Ext.set3 | (refine Ext.setk ?_ (by omega) _) | (apply Ext.snoc; assumption))))); have HT := hide (HT.out.more Hw2.out (wo.heap.size) [.int .i64 f, .int .i64 t] (by (rw [hw]; first | (simp [CellsAt, go_sem, *]; done) | (simp [CellsAt, go_sem, *]; omega)))); have Zw2 := hide (congrArg (fun z : World => z.heap.size) hw); clear hw kz0 kf0 kc0_0 kc0_1 kE; have kT := HT.out; simp only [Tr, Bx, CellsAt, Nat.reduceAdd, Nat.zero_add, and_true] at kT; obtain ⟨⟨⟨kz0, kf0, kc0_0, kc0_1⟩, ⟨kz1, kf1, kc1_0, kc1_1⟩⟩, kE⟩ := kT
                clear e0 e1
                refine (LeadOk_any N A c (f, t) _ hN (HR.out.ext kE)).mono ?_; rintro e w3 ⟨rfl, hb⟩; have HT := hide (HT.out.ext hb); have Hw3 := hide hb; clear hb; clear kz0 kf0 kc0_0 kc0_1 kz1 kf1 kc1_0 kc1_1 kE; have kT := HT.out; simp only [Tr, Bx, CellsAt, Nat.reduceAdd, Nat.zero_add, and_true] at kT; obtain ⟨⟨⟨kz0, kf0, kc0_0, kc0_1⟩, ⟨kz1, kf1, kc1_0, kc1_1⟩⟩, kE⟩ := kT
                by_cases hl : leadOk N (f, t) = true
                · rw [hl]
                  have HL := hide hl
                  clear hl
                  go_wp2_with fail
                  clear kz0 kf0 kc0_0 kc0_1 kz1 kf1 kc1_0 kc1_1 kE
                  go_loopw [61] (fun i wi => ∃ j : Nat, j ≤ k ∧ i = .int .i64 j ∧ Hid (∀ i, i < j → crossB N (at2 E i) (at2 E k) = false) ∧ Ext w3 wi) (fun i _ => k - (intOf i).toNat)
                  case atStart => exact ⟨0, Nat.zero_le _, rfl, hide (fun i hi => absurd hi (by omega)), Ext.refl _⟩
                  case round =>
                    obtain ⟨j, hj, rfl, hq, hE⟩ := hrel
                    have HE3 := hide hE
                    have HT := hide (HT.out.ext hE); clear hE; have kT := HT.out; simp only [Tr, Bx, CellsAt, Nat.reduceAdd, Nat.zero_add, and_true] at kT; obtain ⟨⟨⟨kz0, kf0, kc0_0, kc0_1⟩, ⟨kz1, kf1, kc1_0, kc1_1⟩⟩, kE⟩ := kT
                    by_cases hlt2 : j < k
                    · have hj2 : j < E.length := by omega
                      obtain ⟨b', off', hA', hb', e0, e1⟩ := R2.at_ (HS.out.ext kE) hj2
                      injection hA' with hA'
                      injection hA' with hA1 hA2 _
                      subst hA1 hA2
                      have y0 : (0 : Int) ≤ (j : Int) := by omega
                      have y2 : (j : Int) < (k : Int) := by omega
                      obtain ⟨⟨g1, g2⟩, ng⟩ : ∃ q : P2, E[j] = q := ⟨_, rfl⟩
                      rw [ng] at e0 e1
                      dsimp only at e0 e1
                      have NG : Hid (at2 E j = (g1, g2)) := hide (by rw [at2_eq hj2, ng])
                      clear ng
                      go_wp2_with fail
                      obtain ⟨w4, hw⟩ : ∃ w1, w1 = wr.alloc (Obj.cells #[Value.int IntKind.i64 g1, Value.int IntKind.i64 g2] 110) := ⟨_, rfl⟩; rw [← hw]; have Hw4 := hide (show Ext wr w4 from (by (rw [hw]; (try clear kE); repeat (first | exact kE | exact Ext.refl _ | apply Ext.alloc | apply Ext.drewN | apply Ext.drew | apply Ext.set0 | apply Ext.set1 | apply Ext.set2 | apply Ext.set3 | (refine Ext.setk ?_ (by omega) _) | (apply Ext.snoc; assumption))))); have HT := hide (HT.out.more Hw4.out (wr.heap.size) [.int .i64 g1, .int .i64 g2] (by (rw [hw]; first | (simp [CellsAt, go_sem, *]; done) | (simp [CellsAt, go_sem, *]; omega)))); have Zw4 := hide (congrArg (fun z : World => z.heap.size) hw); clear hw kz0 kf0 kc0_0 kc0_1 kz1 kf1 kc1_0 kc1_1 kE; have kT := HT.out; simp only [Tr, Bx, CellsAt, Nat.reduceAdd, Nat.zero_add, and_true] at kT; obtain ⟨⟨⟨kz0, kf0, kc0_0, kc0_1⟩, ⟨kz1, kf1, kc1_0, kc1_1⟩, ⟨kz2, kf2, kc2_0, kc2_1⟩⟩, kE⟩ := kT
                      clear e0 e1
                      refine (DoCross_any N A c (f, t) (g1, g2) _ hN (HR.out.ext kE)).mono ?_; rintro e w5 ⟨rfl, hb⟩; have HT := hide (HT.out.ext hb); have Hw5 := hide hb; clear hb; clear kz0 kf0 kc0_0 kc0_1 kz1 kf1 kc1_0 kc1_1 kz2 kf2 kc2_0 kc2_1 kE; have kT := HT.out; simp only [Tr, Bx, CellsAt, Nat.reduceAdd, Nat.zero_add, and_true] at kT; obtain ⟨⟨⟨kz0, kf0, kc0_0, kc0_1⟩, ⟨kz1, kf1, kc1_0, kc1_1⟩, ⟨kz2, kf2, kc2_0, kc2_1⟩⟩, kE⟩ := kT
                      by_cases hx : crossB N (f, t) (g1, g2) = true
                      · rw [hx]
                        have HX := hide hx
                        clear hx
                        go_wp2_with fail
                        go_ret
                        exact ⟨ret_bool (by rw [windowB_no]; intro h; have := (h.leads k hlt).2.1 j hlt2; rw [NL.out, NG.out, crossB_comm, HX.out] at this; cases this), HT.out.2⟩
                      · rw [Bool.not_eq_true] at hx
                        rw [hx]
                        have HX := hide hx
                        clear hx
                        go_wp2_with fail
                        have hE5 := HE3.out.trans (Hw4.out.trans Hw5.out)
                        go_roundw
                        case rel => exact ⟨j + 1, by omega, by go_num, hide (fun i hi => by
                          rcases Nat.lt_or_ge i j with a | a
                          · exact hq.out i a
                          · have e : i = j := by omega
                            subst e
                            rw [NL.out, NG.out, crossB_comm, HX.out]), hE5⟩
                        case measure => simp [intOf]; omega
                    · have HQ : Hid (∀ i, i < k → crossB N (at2 E i) (at2 E k) = false) := hide (fun i hi => hq.out i (by omega))
                      clear hq
                      obtain ⟨wq, rfl⟩ : ∃ wq : World, wq = wr := ⟨_, rfl⟩
                      
                      go_wp2_with fail
                      clear kz0 kf0 kc0_0 kc0_1 kz1 kf1 kc1_0 kc1_1 kE
                      go_loopw [74] (fun i wi => ∃ m : Nat, m ≤ N.length ∧ i = .int .i64 m ∧ Hid (∀ i : Nat, i < m → (i : Int) ≠ f → (i : Int) ≠ t → onLead N (f, t) (at2 N i) = false) ∧ Ext wq wi) (fun i _ => N.length - (intOf i).toNat)
                      case atStart => exact ⟨0, Nat.zero_le _, rfl, hide (fun i hi => absurd hi (by omega)), Ext.refl _⟩
                      case round =>
                        obtain ⟨m, hm2, rfl, hz, hE⟩ := hrel
                        have HE4 := hide hE
                        have HT := hide (HT.out.ext hE); clear hE; have kT := HT.out; simp only [Tr, Bx, CellsAt, Nat.reduceAdd, Nat.zero_add, and_true] at kT; obtain ⟨⟨⟨kz0, kf0, kc0_0, kc0_1⟩, ⟨kz1, kf1, kc1_0, kc1_1⟩⟩, kE⟩ := kT
                        by_cases hlt3 : m < N.length
                        · obtain ⟨b2, off2, rfl, hb2, e0, e1⟩ := R2.at_ (HR.out.ext kE) hlt3
                          obtain ⟨⟨n1, n2⟩, nn⟩ : ∃ q : P2, N[m] = q := ⟨_, rfl⟩
                          rw [nn] at e0 e1
                          dsimp only at e0 e1
                          have NN : Hid (at2 N m = (n1, n2)) := hide (by rw [at2_eq hlt3, nn])
                          clear nn
                          have y0 : (0 : Int) ≤ (m : Int) := by omega
                          have y2 : (m : Int) < (N.length : Int) := by omega
                          
                          by_cases c1 : f = (m : Int)
                          · subst c1
                            go_wp2_with fail
                            have hE5 := HE4.out.trans ((Ext.refl wr).alloc (Obj.cells #[Value.int IntKind.i64 n1, Value.int IntKind.i64 n2] 84))
                            go_roundw
                            case rel => exact ⟨m + 1, by omega, by go_num, hide (fun (i : Nat) (hi : i < m + 1) q1 q2 => hz.out i (by omega) q1 q2), hE5⟩
                            case measure => simp [intOf]; omega
                          · by_cases c2 : t = (m : Int)
                            · subst c2
                              go_wp2_with fail
                              have hE5 := HE4.out.trans ((Ext.refl wr).alloc (Obj.cells #[Value.int IntKind.i64 n1, Value.int IntKind.i64 n2] 84))
                              go_roundw
                              case rel => exact ⟨m + 1, by omega, by go_num, hide (fun (i : Nat) (hi : i < m + 1) q1 q2 => hz.out i (by omega) q1 q2), hE5⟩
                              case measure => simp [intOf]; omega
                            · have d1 : ((m : Int) != f) = true := by simp; omega
                              have d2 : ((m : Int) != t) = true := by simp; omega
                              go_wp2_with fail
                              obtain ⟨w6, hw⟩ : ∃ w1, w1 = wr.alloc (Obj.cells #[Value.int IntKind.i64 n1, Value.int IntKind.i64 n2] 84) := ⟨_, rfl⟩; rw [← hw]; have Hw6 := hide (show Ext wr w6 from (by (rw [hw]; (try clear kE); repeat (first | exact kE | exact Ext.refl _ | apply Ext.alloc | apply Ext.drewN | apply Ext.drew | apply Ext.set0 | apply Ext.set1 | apply Ext.set2 | apply Ext.set3 | (refine Ext.setk ?_ (by omega) _) | (apply Ext.snoc; assumption))))); have HT := hide (HT.out.more Hw6.out (wr.heap.size) [.int .i64 n1, .int .i64 n2] (by (rw [hw]; first | (simp [CellsAt, go_sem, *]; done) | (simp [CellsAt, go_sem, *]; omega)))); have Zw6 := hide (congrArg (fun z : World => z.heap.size) hw); clear hw kz0 kf0 kc0_0 kc0_1 kz1 kf1 kc1_0 kc1_1 kE; have kT := HT.out; simp only [Tr, Bx, CellsAt, Nat.reduceAdd, Nat.zero_add, and_true] at kT; obtain ⟨⟨⟨kz0, kf0, kc0_0, kc0_1⟩, ⟨kz1, kf1, kc1_0, kc1_1⟩, ⟨kz2, kf2, kc2_0, kc2_1⟩⟩, kE⟩ := kT
                              clear e0 e1
                              refine (IsOnLead_any N (some ⟨b2, off2, none⟩) c (f, t) (n1, n2) _ hN (HR.out.ext kE)).mono ?_; rintro e w7 ⟨rfl, hb⟩; have HT := hide (HT.out.ext hb); have Hw7 := hide hb; clear hb; clear kz0 kf0 kc0_0 kc0_1 kz1 kf1 kc1_0 kc1_1 kz2 kf2 kc2_0 kc2_1 kE; have kT := HT.out; simp only [Tr, Bx, CellsAt, Nat.reduceAdd, Nat.zero_add, and_true] at kT; obtain ⟨⟨⟨kz0, kf0, kc0_0, kc0_1⟩, ⟨kz1, kf1, kc1_0, kc1_1⟩, ⟨kz2, kf2, kc2_0, kc2_1⟩⟩, kE⟩ := kT
                              by_cases hx : onLead N (f, t) (n1, n2) = true
                              · rw [hx]
                                have HX := hide hx
                                clear hx
                                go_wp2_with fail
                                go_ret
                                exact ⟨ret_bool (by rw [windowB_no]; intro h; have := (h.leads k hlt).2.2 m hlt3; rw [NL.out, NN.out, HX.out] at this; have := this (Ne.symm c1) (Ne.symm c2); cases this), HT.out.2⟩
                              · rw [Bool.not_eq_true] at hx
                                rw [hx]
                                have HX := hide hx
                                clear hx
                                go_wp2_with fail
                                have hE5 := HE4.out.trans (Hw6.out.trans Hw7.out)
                                have hz2 := hide (show ∀ i : Nat, i < m + 1 → (i : Int) ≠ f → (i : Int) ≠ t → onLead N (f, t) (at2 N i) = false from fun i hi q1 q2 => by
                                  rcases Nat.lt_or_ge i m with a | a
                                  · exact hz.out i a q1 q2
                                  · have e : i = m := by omega
                                    subst e
                                    rw [NN.out, HX.out])
                                go_roundw
                                case rel => exact ⟨m + 1, by omega, by go_num, hz2, hE5⟩
                                case measure => simp [intOf]; omega
                        · obtain rfl : m = N.length := by omega
                          go_wp2_with fail
                          have hE6 := (HE2.out.trans Hw2.out).trans (Hw3.out.trans (HE3.out.trans HE4.out))
                          go_roundw
                          case rel => exact ⟨k + 1, by omega, by go_num, hide (hp.out.next (by rw [NL.out]; exact HL.out) HQ.out (by rw [NL.out]; exact hz.out)), hE6⟩
                          case measure => simp [intOf]; omega
                · rw [Bool.not_eq_true] at hl
                  rw [hl]
                  have H := hide hl
                  clear hl
                  go_wp2_with fail
                  go_ret
                  exact ⟨ret_bool (by rw [windowB_no]; intro h; have := (h.leads k hlt).1; rw [NL.out, H.out] at this; cases this), HT.out.2⟩
              · obtain rfl : k = E.length := by omega
                go_wp2_with fail
                go_ret
                exact ⟨ret_bool (by rw [eq_comm, windowB_iff]; exact ⟨by omega, hm, HN.out, hp.out⟩), HT.out.2⟩
      · rw [Bool.not_eq_true] at ha
        rw [ha]
        have H := hide ha
        clear ha
        go_wp2_with fail
        go_ret
        exact ⟨ret_bool (by rw [windowB_no]; intro h; have := H.out; rw [List.all_eq_false] at this; obtain ⟨x, hx, hx'⟩ := this; obtain ⟨i, hi, rfl⟩ := List.getElem_of_mem hx; have := (h.nodes i hi).1; rw [at2_eq hi] at this; exact hx' this), HT.out.2⟩
    · go_wp2_with (first | (go_at_call 67; refine (within_any _ _ _ _).mono ?_; rintro e w' ⟨rfl, rfl⟩))
      go_ret
      exact ⟨ret_bool (by rw [windowB_no]; intro h; exact hm h.m), by repeat (first | exact kE | exact Ext.refl _ | apply Ext.alloc | apply Ext.drewN | apply Ext.drew | apply Ext.set0 | apply Ext.set1 | apply Ext.set2 | apply Ext.set3 | (refine Ext.setk ?_ (by omega) _) | (apply Ext.snoc; assumption))⟩
  · rw [Bool.not_eq_true] at hn
    go_wp2_with (first | (go_at_call 67; refine (within_any _ _ _ _).mono ?_; rintro e w' ⟨rfl, rfl⟩))
    go_ret
    exact ⟨ret_bool (by rw [windowB_no]; intro h; have := h.n; simp [inR] at hn; omega), by repeat (first | exact kE | exact Ext.refl _ | apply Ext.alloc | apply Ext.drewN | apply Ext.drew | apply Ext.set0 | apply Ext.set1 | apply Ext.set2 | apply Ext.set3 | (refine Ext.setk ?_ (by omega) _) | (apply Ext.snoc; assumption))⟩
end Go.Proofs.YtabgcpoaepafjaaGreat
namespace Go.Proofs.YtabgcpoaepafjaaGreat
open Go.RowKit
set_option maxRecDepth 20000 in
set_option maxHeartbeats 8000000 in
theorem sWindowOk_any (N E : List P2) (A B : Option Addr) (c d : Nat) (w : World) (hN : N.length ≤ 1048576) (hE' : E.length ≤ 1048576) (hc : N.length ≤ c) (hd : E.length ≤ d) (hr : R2 w A N) (hs : R2 w B E) :
    Calls Tryz.prog 48 #[.agg #[.slice A N.length c, .slice B E.length d]] w fun x w' => x = .returned (.bool (windowB N E)) ∧ Ext w w' := by
  have HR := hide hr
  have HS := hide hs
  clear hr hs
  
  go_enter Tryz.func48, Tryz.ntmps48
  by_cases hn : inR (N.length : Int) 1 12 = true
  · have hn' := inR_true hn
    by_cases hm : E.length ≤ 20
    · have hm20 : decide ((20 : Int) < (E.length : Int)) = false := decide_eq_false (by omega)
      go_wp2_with (first | (go_at_call 65; refine (l01In_any _ _ _ _).mono ?_; rintro e w' ⟨rfl, rfl⟩))
      obtain ⟨w1, hw⟩ : ∃ w1, w1 = w.alloc (Obj.cells #[Value.slice A N.length c, Value.slice B E.length d] 27) := ⟨_, rfl⟩; rw [← hw]; have kT : Tr [(w.heap.size, [.slice A N.length c, .slice B E.length d])] w w1 := (by rw [hw]; exact ⟨by (first | (simp [Bx, CellsAt, go_sem, *]; done) | (simp [Bx, CellsAt, go_sem, *]; omega)), by (repeat (first | exact kE | exact Ext.refl _ | apply Ext.alloc | apply Ext.drewN | apply Ext.drew | apply Ext.set0 | apply Ext.set1 | apply Ext.set2 | apply Ext.set3 | (refine Ext.setk ?_ (by omega) _) | (apply Ext.snoc; assumption)))⟩); have HT := hide kT; clear hw kT; have kT := HT.out; simp only [Tr, Bx, CellsAt, Nat.reduceAdd, Nat.zero_add, and_true] at kT; obtain ⟨⟨kz0, kf0, kc0_0, kc0_1⟩, kE⟩ := kT
      clear kz0 kf0 kc0_0 kc0_1 kE
      go_loopw [3] (fun i wr => ∃ k : Nat, k ≤ N.length ∧ i = .int .i64 k ∧ Hid (NodesTo N k) ∧ Ext w1 wr) (fun i _ => N.length - (intOf i).toNat)
      case atStart => exact ⟨0, Nat.zero_le _, rfl, hide (NodesTo.zero N), Ext.refl _⟩
      case round =>
        obtain ⟨k, hk, rfl, hp, hE⟩ := hrel
        have HE := hide hE
        have HT := hide (HT.out.ext hE); clear hE; have kT := HT.out; simp only [Tr, Bx, CellsAt, Nat.reduceAdd, Nat.zero_add, and_true] at kT; obtain ⟨⟨kz0, kf0, kc0_0, kc0_1⟩, kE⟩ := kT
        by_cases hlt : k < N.length
        · obtain ⟨b, off, rfl, hb, e0, e1⟩ := R2.at_ (HR.out.ext kE) hlt
          have x0 : (0 : Int) ≤ (k : Int) := by omega
          have x1 : (k : Int) ≤ (c : Int) := by omega
          have x2 : (k : Int) < (N.length : Int) := by omega
          obtain ⟨⟨a1, a2⟩, na⟩ : ∃ q : P2, N[k] = q := ⟨_, rfl⟩
          rw [na] at e0 e1
          dsimp only at e0 e1
          have NA : Hid (at2 N k = (a1, a2)) := hide (by rw [at2_eq hlt, na])
          clear na
          obtain ⟨wo, rfl⟩ : ∃ wo : World, wo = wr := ⟨_, rfl⟩
          
          go_wp2_with fail
          clear e0 e1
          refine (sNodeOk_any (a1, a2) _).mono ?_; rintro e w2 ⟨rfl, hb⟩; have HT := hide (HT.out.ext hb); have Hw2 := hide hb; clear hb; clear kz0 kf0 kc0_0 kc0_1 kE; have kT := HT.out; simp only [Tr, Bx, CellsAt, Nat.reduceAdd, Nat.zero_add, and_true] at kT; obtain ⟨⟨kz0, kf0, kc0_0, kc0_1⟩, kE⟩ := kT
          by_cases ha : nodeOk (a1, a2) = true
          · rw [ha]
            have HA := hide ha
            clear ha
            go_wp2_with fail
            clear kz0 kf0 kc0_0 kc0_1 kE
            go_loopw [4] (fun i wi => ∃ j : Nat, j ≤ k ∧ i = .int .i64 j ∧ Hid (∀ i : Nat, i < j → at2 N i ≠ at2 N k) ∧ Ext w2 wi) (fun i _ => k - (intOf i).toNat)
            case atStart => exact ⟨0, Nat.zero_le _, rfl, hide (fun i hi => absurd hi (by omega)), Ext.refl _⟩
            case round =>
              obtain ⟨j, hj, rfl, hq, hE⟩ := hrel
              have HE3 := hide hE
              have HT := hide (HT.out.ext hE); clear hE; have kT := HT.out; simp only [Tr, Bx, CellsAt, Nat.reduceAdd, Nat.zero_add, and_true] at kT; obtain ⟨⟨kz0, kf0, kc0_0, kc0_1⟩, kE⟩ := kT
              by_cases hlt2 : j < k
              · have hj2 : j < N.length := by omega
                obtain ⟨b', off', hA', hb', f0, f1⟩ := R2.at_ (HR.out.ext kE) hj2
                injection hA' with hA'
                injection hA' with hA1 hA2 _
                subst hA1 hA2
                obtain ⟨b', off', hA', hb', e0, e1⟩ := R2.at_ (HR.out.ext kE) hlt
                injection hA' with hA'
                injection hA' with hA1 hA2 _
                subst hA1 hA2
                have na : N[k] = (a1, a2) := by rw [← at2_eq hlt, NA.out]
                rw [na] at e0 e1
                clear na
                dsimp only at e0 e1
                have y0 : (0 : Int) ≤ (j : Int) := by omega
                have y2 : (j : Int) < (k : Int) := by omega
                have y3 : (j : Int) < (N.length : Int) := by omega
                have y4 : (j : Int) ≤ (c : Int) := by omega
                obtain ⟨⟨g1, g2⟩, ng⟩ : ∃ q : P2, N[j] = q := ⟨_, rfl⟩
                rw [ng] at f0 f1
                dsimp only at f0 f1
                have NG : Hid (at2 N j = (g1, g2)) := hide (by rw [at2_eq hj2, ng])
                clear ng
                by_cases q1 : g1 = a1
                · by_cases q2 : g2 = a2
                  · subst q1 q2
                    go_wp2_with fail
                    go_quiet (fail)
                    go_wp2_with fail
                    go_ret
                    exact ⟨ret_bool (by rw [windowB_no]; intro h; exact (h.nodes k hlt).2 j hlt2 (by rw [NA.out, NG.out])), HT.out.2.drewN _⟩
                  · subst q1
                    go_wp2_with fail
                    go_quiet (fail)
                    go_wp2_with fail
                    go_roundw
                    case rel => exact ⟨j + 1, by omega, by go_num, hide (fun i hi => by
                      rcases Nat.lt_or_ge i j with a | a
                      · exact hq.out i a
                      · have e : i = j := by omega
                        subst e
                        rw [NG.out, NA.out]
                        intro e
                        exact q2 (congrArg Prod.snd e)), HE3.out.drewN _⟩
                    case measure => simp [intOf]; omega
                · go_wp2_with fail
                  go_quiet (fail)
                  go_wp2_with fail
                  go_roundw
                  case rel => exact ⟨j + 1, by omega, by go_num, hide (fun i hi => by
                    rcases Nat.lt_or_ge i j with a | a
                    · exact hq.out i a
                    · have e : i = j := by omega
                      subst e
                      rw [NG.out, NA.out]
                      intro e
                      exact q1 (congrArg Prod.fst e)), HE3.out.drewN _⟩
                  case measure => simp [intOf]; omega
              · have HQ : Hid (∀ i : Nat, i < k → at2 N i ≠ at2 N k) := hide (fun i hi => hq.out i (by omega))
                clear hq
                go_wp2_with fail
                have hE6 := HE.out.trans (Hw2.out.trans HE3.out)
                go_roundw
                case rel => exact ⟨k + 1, by omega, by go_num, hide (hp.out.next2 (by rw [NA.out]; exact HA.out) HQ.out), hE6⟩
                case measure => simp [intOf]; omega
          · rw [Bool.not_eq_true] at ha
            rw [ha]
            have H := hide ha
            clear ha
            go_wp2_with fail
            go_ret
            exact ⟨ret_bool (by rw [windowB_no]; intro h; have := (h.nodes k hlt).1; rw [NA.out, H.out] at this; cases this), HT.out.2⟩
        · obtain rfl : k = N.length := by omega
          have HN := hp
          
          obtain ⟨wm, rfl⟩ : ∃ wm : World, wm = wr := ⟨_, rfl⟩
          go_wp2_with fail
          clear kz0 kf0 kc0_0 kc0_1 kE
          go_loopw [5] (fun i wi => ∃ k : Nat, k ≤ E.length ∧ i = .int .i64 k ∧ Hid (LeadsTo N E k) ∧ Ext wm wi) (fun i _ => E.length - (intOf i).toNat)
          case atStart => exact ⟨0, Nat.zero_le _, rfl, hide (LeadsTo.zero N E), Ext.refl _⟩
          case round =>
            obtain ⟨k, hk, rfl, hp, hE⟩ := hrel
            have HE2 := hide hE
            have HT := hide (HT.out.ext hE); clear hE; have kT := HT.out; simp only [Tr, Bx, CellsAt, Nat.reduceAdd, Nat.zero_add, and_true] at kT; obtain ⟨⟨kz0, kf0, kc0_0, kc0_1⟩, kE⟩ := kT
            by_cases hlt : k < E.length
            · obtain ⟨b, off, rfl, hb, e0, e1⟩ := R2.at_ (HS.out.ext kE) hlt
              have x0 : (0 : Int) ≤ (k : Int) := by omega
              have x1 : (k : Int) ≤ (d : Int) := by omega
              have x2 : (k : Int) < (E.length : Int) := by omega
              obtain ⟨⟨f, t⟩, nl⟩ : ∃ q : P2, E[k] = q := ⟨_, rfl⟩
              rw [nl] at e0 e1
              dsimp only at e0 e1
              have NL : Hid (at2 E k = (f, t)) := hide (by rw [at2_eq hlt, nl])
              clear nl
              obtain ⟨wo, rfl⟩ : ∃ wo : World, wo = wr := ⟨_, rfl⟩
              
              go_wp2_with fail
              obtain ⟨w2, hw⟩ : ∃ w1, w1 = wo.alloc (Obj.cells #[Value.int IntKind.i64 f, Value.int IntKind.i64 t] 110) := ⟨_, rfl⟩; rw [← hw]; have Hw2 := hide (show Ext wo w2 from (by (rw [hw]; (try clear kE); repeat (first | exact kE | exact Ext.refl _ | apply Ext.alloc | apply Ext.drewN | apply Ext.drew | apply Ext.set0 | apply Ext.set1 | apply Ext.set2 | apply Ext.set3 | (refine Ext.setk ?_ (by omega) _) | (apply Ext.snoc; assumption))))); have HT := hide (HT.out.more Hw2.out (wo.heap.size) [.int .i64 f, .int .i64 t] (by (rw [hw]; first | (simp [CellsAt, go_sem, *]; done) | (simp [CellsAt, go_sem, *]; omega)))); have Zw2 := hide (congrArg (fun z : World => z.heap.size) hw); clear hw kz0 kf0 kc0_0 kc0_1 kE; have kT := HT.out; simp only [Tr, Bx, CellsAt, Nat.reduceAdd, Nat.zero_add, and_true] at kT; obtain ⟨⟨⟨kz0, kf0, kc0_0, kc0_1⟩, ⟨kz1, kf1, kc1_0, kc1_1⟩⟩, kE⟩ := kT
              clear e0 e1
              refine (sLeadOk_any N A c (f, t) _ hN (HR.out.ext kE)).mono ?_; rintro e w3 ⟨rfl, hb⟩; have HT := hide (HT.out.ext hb); have Hw3 := hide hb; clear hb; clear kz0 kf0 kc0_0 kc0_1 kz1 kf1 kc1_0 kc1_1 kE; have kT := HT.out; simp only [Tr, Bx, CellsAt, Nat.reduceAdd, Nat.zero_add, and_true] at kT; obtain ⟨⟨⟨kz0, kf0, kc0_0, kc0_1⟩, ⟨kz1, kf1, kc1_0, kc1_1⟩⟩, kE⟩ := kT
              by_cases hl : leadOk N (f, t) = true
              · rw [hl]
                have HL := hide hl
                clear hl
                go_wp2_with fail
                clear kz0 kf0 kc0_0 kc0_1 kz1 kf1 kc1_0 kc1_1 kE
                go_loopw [7] (fun i wi => ∃ j : Nat, j ≤ k ∧ i = .int .i64 j ∧ Hid (∀ i, i < j → crossB N (at2 E i) (at2 E k) = false) ∧ Ext w3 wi) (fun i _ => k - (intOf i).toNat)
                case atStart => exact ⟨0, Nat.zero_le _, rfl, hide (fun i hi => absurd hi (by omega)), Ext.refl _⟩
                case round =>
                  obtain ⟨j, hj, rfl, hq, hE⟩ := hrel
                  have HE3 := hide hE
                  have HT := hide (HT.out.ext hE); clear hE; have kT := HT.out; simp only [Tr, Bx, CellsAt, Nat.reduceAdd, Nat.zero_add, and_true] at kT; obtain ⟨⟨⟨kz0, kf0, kc0_0, kc0_1⟩, ⟨kz1, kf1, kc1_0, kc1_1⟩⟩, kE⟩ := kT
                  by_cases hlt2 : j < k
                  · have hj2 : j < E.length := by omega
                    obtain ⟨b', off', hA', hb', e0, e1⟩ := R2.at_ (HS.out.ext kE) hj2
                    injection hA' with hA'
                    injection hA' with hA1 hA2 _
                    subst hA1 hA2
                    have y0 : (0 : Int) ≤ (j : Int) := by omega
                    have y2 : (j : Int) < (k : Int) := by omega
                    have y3 : (j : Int) < (E.length : Int) := by omega
                    have y4 : (j : Int) ≤ (d : Int) := by omega
                    obtain ⟨⟨g1, g2⟩, ng⟩ : ∃ q : P2, E[j] = q := ⟨_, rfl⟩
                    rw [ng] at e0 e1
                    dsimp only at e0 e1
                    have NG : Hid (at2 E j = (g1, g2)) := hide (by rw [at2_eq hj2, ng])
                    clear ng
                    have qe0 := ExtBy.cell (W := wr) hb' e0
                    have qe1 := ExtBy.cell (W := wr) hb' e1
                    clear e0 e1
                    obtain ⟨v, hv⟩ : ∃ v, crossB N (g1, g2) (f, t) = v := ⟨_, rfl⟩
                    have HC := fun p : ExtBy wr => sDoCross_any N A c (g1, g2) (f, t) p.w hN (HR.out.ext (kE.trans p.h))
                    rw [hv] at HC
                    have HC := hide HC
                    go_wp2_with fail
                    have kq0_0 := ExtBy.cell (W := wr) kz0 kc0_0; have kq0_1 := ExtBy.cell (W := wr) kz0 kc0_1; have kq1_0 := ExtBy.cell (W := wr) kz1 kc1_0; have kq1_1 := ExtBy.cell (W := wr) kz1 kc1_1; refine wp_region_quietE (by kernel_rfl) (by kernel_rfl) ?_; (repeat (refine WQ.step (fun K hK => ?_); have HK := hide hK; clear hK; go_simp; refine HK.out _ ?_; clear HK K)); (refine WQ.step (fun K hK => ?_); have HK := hide hK; clear hK; go_simp; apply Exists.intro; refine ⟨fun _ => ?_, HK.out _ ?_⟩; (go_at_call 89; refine extby_of (HC.out _)); clear HK K); (repeat (refine WQ.step (fun K hK => ?_); have HK := hide hK; clear hK; go_simp; refine HK.out _ ?_; clear HK K)); refine WQ.done ?_; intro w5 hw'; obtain ⟨⟨_, hw5⟩, hw''⟩ := hw'; subst hw''; clear kq0_0 kq0_1 kq1_0 kq1_1; have HT := hide (HT.out.ext hw5); have Hw5 := hide hw5; clear hw5 kz0 kf0 kc0_0 kc0_1 kz1 kf1 kc1_0 kc1_1 kE; have kT := HT.out; simp only [Tr, Bx, CellsAt, Nat.reduceAdd, Nat.zero_add, and_true] at kT; obtain ⟨⟨⟨kz0, kf0, kc0_0, kc0_1⟩, ⟨kz1, kf1, kc1_0, kc1_1⟩⟩, kE⟩ := kT
                    clear qe0 qe1
                    cases v with
                    | true =>
                      have HX := hide hv
                      clear hv
                      go_wp2_with fail
                      go_ret
                      exact ⟨ret_bool (by rw [windowB_no]; intro h; have := (h.leads k hlt).2.1 j hlt2; rw [NL.out, NG.out, HX.out] at this; cases this), HT.out.2⟩
                    | false =>
                      have HX := hide hv
                      clear hv
                      go_wp2_with fail
                      have hE5 := HE3.out.trans Hw5.out
                      go_roundw
                      case rel => exact ⟨j + 1, by omega, by go_num, hide (fun i hi => by
                        rcases Nat.lt_or_ge i j with a | a
                        · exact hq.out i a
                        · have e : i = j := by omega
                          subst e
                          rw [NL.out, NG.out, HX.out]), hE5⟩
                      case measure => simp [intOf]; omega
                  · have HQ : Hid (∀ i, i < k → crossB N (at2 E i) (at2 E k) = false) := hide (fun i hi => hq.out i (by omega))
                    clear hq
                    obtain ⟨wq, rfl⟩ : ∃ wq : World, wq = wr := ⟨_, rfl⟩
                    
                    go_wp2_with fail
                    clear kz0 kf0 kc0_0 kc0_1 kz1 kf1 kc1_0 kc1_1 kE
                    go_loopw [8] (fun i wi => ∃ m : Nat, m ≤ N.length ∧ i = .int .i64 m ∧ Hid (∀ i : Nat, i < m → (i : Int) ≠ f → (i : Int) ≠ t → onLead N (f, t) (at2 N i) = false) ∧ Ext wq wi) (fun i _ => N.length - (intOf i).toNat)
                    case atStart => exact ⟨0, Nat.zero_le _, rfl, hide (fun i hi => absurd hi (by omega)), Ext.refl _⟩
                    case round =>
                      obtain ⟨m, hm2, rfl, hz, hE⟩ := hrel
                      have HE4 := hide hE
                      have HT := hide (HT.out.ext hE); clear hE; have kT := HT.out; simp only [Tr, Bx, CellsAt, Nat.reduceAdd, Nat.zero_add, and_true] at kT; obtain ⟨⟨⟨kz0, kf0, kc0_0, kc0_1⟩, ⟨kz1, kf1, kc1_0, kc1_1⟩⟩, kE⟩ := kT
                      by_cases hlt3 : m < N.length
                      · obtain ⟨b2, off2, rfl, hb2, e0, e1⟩ := R2.at_ (HR.out.ext kE) hlt3
                        obtain ⟨⟨n1, n2⟩, nn⟩ : ∃ q : P2, N[m] = q := ⟨_, rfl⟩
                        rw [nn] at e0 e1
                        dsimp only at e0 e1
                        have NN : Hid (at2 N m = (n1, n2)) := hide (by rw [at2_eq hlt3, nn])
                        clear nn
                        have y0 : (0 : Int) ≤ (m : Int) := by omega
                        have y2 : (m : Int) < (N.length : Int) := by omega
                        have y3 : (m : Int) ≤ (c : Int) := by omega
                        
                        have qe0 := ExtBy.cell (W := wr) hb2 e0
                        have qe1 := ExtBy.cell (W := wr) hb2 e1
                        clear e0 e1
                        by_cases c1 : f = (m : Int)
                        · subst c1
                          
                          go_wp2_with fail
                          have kq0_0 := ExtBy.cell (W := wr) kz0 kc0_0; have kq0_1 := ExtBy.cell (W := wr) kz0 kc0_1; have kq1_0 := ExtBy.cell (W := wr) kz1 kc1_0; have kq1_1 := ExtBy.cell (W := wr) kz1 kc1_1; refine wp_region_quietE (by kernel_rfl) (by kernel_rfl) ?_; (repeat (refine WQ.step (fun K hK => ?_); have HK := hide hK; clear hK; go_simp; refine HK.out _ ?_; clear HK K)); refine WQ.done ?_; intro w6 hw'; obtain ⟨⟨_, hw6⟩, hw''⟩ := hw'; subst hw''; clear kq0_0 kq0_1 kq1_0 kq1_1; have HT := hide (HT.out.ext hw6); have Hw6 := hide hw6; clear hw6 kz0 kf0 kc0_0 kc0_1 kz1 kf1 kc1_0 kc1_1 kE; have kT := HT.out; simp only [Tr, Bx, CellsAt, Nat.reduceAdd, Nat.zero_add, and_true] at kT; obtain ⟨⟨⟨kz0, kf0, kc0_0, kc0_1⟩, ⟨kz1, kf1, kc1_0, kc1_1⟩⟩, kE⟩ := kT
                          clear qe0 qe1
                          go_wp2_with fail
                          have hE5 := HE4.out.trans Hw6.out
                          go_roundw
                          case rel => exact ⟨m + 1, by omega, by go_num, hide (fun (i : Nat) (hi : i < m + 1) q1 q2 => hz.out i (by omega) q1 q2), hE5⟩
                          case measure => simp [intOf]; omega
                        · have d1 : ((m : Int) != f) = true := by simp; omega
                          by_cases c2 : t = (m : Int)
                          · subst c2
                            
                            go_wp2_with fail
                            have kq0_0 := ExtBy.cell (W := wr) kz0 kc0_0; have kq0_1 := ExtBy.cell (W := wr) kz0 kc0_1; have kq1_0 := ExtBy.cell (W := wr) kz1 kc1_0; have kq1_1 := ExtBy.cell (W := wr) kz1 kc1_1; refine wp_region_quietE (by kernel_rfl) (by kernel_rfl) ?_; (repeat (refine WQ.step (fun K hK => ?_); have HK := hide hK; clear hK; go_simp; refine HK.out _ ?_; clear HK K)); refine WQ.done ?_; intro w6 hw'; obtain ⟨⟨_, hw6⟩, hw''⟩ := hw'; subst hw''; clear kq0_0 kq0_1 kq1_0 kq1_1; have HT := hide (HT.out.ext hw6); have Hw6 := hide hw6; clear hw6 kz0 kf0 kc0_0 kc0_1 kz1 kf1 kc1_0 kc1_1 kE; have kT := HT.out; simp only [Tr, Bx, CellsAt, Nat.reduceAdd, Nat.zero_add, and_true] at kT; obtain ⟨⟨⟨kz0, kf0, kc0_0, kc0_1⟩, ⟨kz1, kf1, kc1_0, kc1_1⟩⟩, kE⟩ := kT
                            clear qe0 qe1 d1
                            go_wp2_with fail
                            have hE5 := HE4.out.trans Hw6.out
                            go_roundw
                            case rel => exact ⟨m + 1, by omega, by go_num, hide (fun (i : Nat) (hi : i < m + 1) q1 q2 => hz.out i (by omega) q1 q2), hE5⟩
                            case measure => simp [intOf]; omega
                          · have d2 : ((m : Int) != t) = true := by simp; omega
                            
                            obtain ⟨v, hv⟩ : ∃ v, onLead N (f, t) (n1, n2) = v := ⟨_, rfl⟩
                            have HC := fun p : ExtBy wr => sIsOnLead_any N (some ⟨b2, off2, none⟩) c (f, t) (n1, n2) p.w hN (HR.out.ext (kE.trans p.h))
                            rw [hv] at HC
                            have HC := hide HC
                            go_wp2_with fail
                            have kq0_0 := ExtBy.cell (W := wr) kz0 kc0_0; have kq0_1 := ExtBy.cell (W := wr) kz0 kc0_1; have kq1_0 := ExtBy.cell (W := wr) kz1 kc1_0; have kq1_1 := ExtBy.cell (W := wr) kz1 kc1_1; refine wp_region_quietE (by kernel_rfl) (by kernel_rfl) ?_; (repeat (refine WQ.step (fun K hK => ?_); have HK := hide hK; clear hK; go_simp; refine HK.out _ ?_; clear HK K)); (refine WQ.step (fun K hK => ?_); have HK := hide hK; clear hK; go_simp; apply Exists.intro; refine ⟨fun _ => ?_, HK.out _ ?_⟩; (go_at_call 90; refine extby_of (HC.out _)); clear HK K); (repeat (refine WQ.step (fun K hK => ?_); have HK := hide hK; clear hK; go_simp; refine HK.out _ ?_; clear HK K)); refine WQ.done ?_; intro w7 hw'; obtain ⟨⟨_, hw7⟩, hw''⟩ := hw'; subst hw''; clear kq0_0 kq0_1 kq1_0 kq1_1; have HT := hide (HT.out.ext hw7); have Hw7 := hide hw7; clear hw7 kz0 kf0 kc0_0 kc0_1 kz1 kf1 kc1_0 kc1_1 kE; have kT := HT.out; simp only [Tr, Bx, CellsAt, Nat.reduceAdd, Nat.zero_add, and_true] at kT; obtain ⟨⟨⟨kz0, kf0, kc0_0, kc0_1⟩, ⟨kz1, kf1, kc1_0, kc1_1⟩⟩, kE⟩ := kT
                            clear qe0 qe1 d1 d2
                            cases v with
                            | true =>
                              have HX := hide hv
                              clear hv
                              go_wp2_with fail
                              go_ret
                              exact ⟨ret_bool (by rw [windowB_no]; intro h; have := (h.leads k hlt).2.2 m hlt3; rw [NL.out, NN.out, HX.out] at this; have := this (Ne.symm c1) (Ne.symm c2); cases this), HT.out.2⟩
                            | false =>
                              have HX := hide hv
                              clear hv
                              go_wp2_with fail
                              have hE5 := HE4.out.trans Hw7.out
                              have hz2 := hide (show ∀ i : Nat, i < m + 1 → (i : Int) ≠ f → (i : Int) ≠ t → onLead N (f, t) (at2 N i) = false from fun i hi q1 q2 => by
                                rcases Nat.lt_or_ge i m with a | a
                                · exact hz.out i a q1 q2
                                · have e : i = m := by omega
                                  subst e
                                  rw [NN.out, HX.out])
                              go_roundw
                              case rel => exact ⟨m + 1, by omega, by go_num, hz2, hE5⟩
                              case measure => simp [intOf]; omega
                      · obtain rfl : m = N.length := by omega
                        go_wp2_with fail
                        have hE6 := (HE2.out.trans Hw2.out).trans (Hw3.out.trans (HE3.out.trans HE4.out))
                        go_roundw
                        case rel => exact ⟨k + 1, by omega, by go_num, hide (hp.out.next (by rw [NL.out]; exact HL.out) HQ.out (by rw [NL.out]; exact hz.out)), hE6⟩
                        case measure => simp [intOf]; omega
              · rw [Bool.not_eq_true] at hl
                rw [hl]
                have H := hide hl
                clear hl
                go_wp2_with fail
                go_ret
                exact ⟨ret_bool (by rw [windowB_no]; intro h; have := (h.leads k hlt).1; rw [NL.out, H.out] at this; cases this), HT.out.2⟩
            · obtain rfl : k = E.length := by omega
              go_wp2_with fail
              go_ret
              exact ⟨ret_bool (by rw [eq_comm, windowB_iff]; exact ⟨by omega, hm, HN.out, hp.out⟩), HT.out.2⟩
    · go_wp2_with (first | (go_at_call 65; refine (l01In_any _ _ _ _).mono ?_; rintro e w' ⟨rfl, rfl⟩))
      go_ret
      exact ⟨ret_bool (by rw [windowB_no]; intro h; exact hm h.m), by repeat (first | exact kE | exact Ext.refl _ | apply Ext.alloc | apply Ext.drewN | apply Ext.drew | apply Ext.set0 | apply Ext.set1 | apply Ext.set2 | apply Ext.set3 | (refine Ext.setk ?_ (by omega) _) | (apply Ext.snoc; assumption))⟩
  · rw [Bool.not_eq_true] at hn
    go_wp2_with (first | (go_at_call 65; refine (l01In_any _ _ _ _).mono ?_; rintro e w' ⟨rfl, rfl⟩))
    go_ret
    exact ⟨ret_bool (by rw [windowB_no]; intro h; have := h.n; simp [inR] at hn; omega), by repeat (first | exact kE | exact Ext.refl _ | apply Ext.alloc | apply Ext.drewN | apply Ext.drew | apply Ext.set0 | apply Ext.set1 | apply Ext.set2 | apply Ext.set3 | (refine Ext.setk ?_ (by omega) _) | (apply Ext.snoc; assumption))⟩
end Go.Proofs.YtabgcpoaepafjaaGreat
