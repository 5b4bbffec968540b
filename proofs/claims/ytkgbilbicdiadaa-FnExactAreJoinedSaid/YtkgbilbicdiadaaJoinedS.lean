/- The walks of the reference's l17Joined and AreJoined. No condition but that a list has at most 1048576 elements. -/
import Derived.Test.YtkgbilbicdiadaaJoinedP
import Derived.Test.YtkgbilbicdiadaaBes13
set_option linter.unusedSimpArgs false
set_option linter.unusedVariables false
namespace Go.Proofs.Ytkgbilbicdiadaa
open Go.RowKit

set_option maxRecDepth 20000 in
set_option maxHeartbeats 4000000 in
theorem l17Joined_any (n hd c2 B U s : Nat) (F : Nat → Nat → Bool) (w : World) (hM : MatB w B U hd n 99 4 F) (h0 : s ≠ 0) (h : s < 2 ^ n) (hn : n ≤ 20) :
    Calls Try.prog 98 #[.slice (some ⟨hd, 0, none⟩) n c2, .int .i64 (s : Nat)] w fun e w' => e = .returned (.bool (joinedB F s n)) ∧ w = w' := by
  have HM := hide hM
  have hp20 : 2 ^ n ≤ 2 ^ 20 := Nat.pow_le_pow_right (by decide) hn
  have hs62 : s < 2 ^ 62 := by omega
  obtain ⟨l1, l2, l3⟩ := low_facts n s h0 h
  have HCL := hide (reach_closing F s n)
  have HV := hide (show joinedB F s n = _ from rfl)
  have HB := hide (fun i => bit_at s i hs62)
  obtain ⟨p, hp⟩ : ∃ p, lowOf s n = p := ⟨_, rfl⟩
  rw [hp] at l1 l2 l3
  have HL1 := hide l1
  have HL3 := hide l3
  have hLP := Nat.pow_lt_pow_right (show 1 < 2 by decide) l2
  have HVJ := hide (show joinedB F s n = (it (reachF F s n n) n (2 ^ p) == s) by rw [← hp]; rfl)
  obtain ⟨v, hv⟩ : ∃ v, joinedB F s n = v := ⟨_, rfl⟩
  rw [hv] at HVJ ⊢
  have hsh := shl_one (show p < 62 by omega)
  rw [← wrap64_eq] at hsh
  obtain ⟨L, hL⟩ : ∃ L, 2 ^ p = L := ⟨_, rfl⟩
  rw [hL] at hLP HVJ hsh
  have HIT := hide (fun k => HCL.out.it_lt hLP k)
  have HSS := hide (And.intro h0 h)
  clear hM h0 h hs62 l1 l3 hp HV hv hL hLP HCL
  go_enter Try.func98, Try.ntmps98
  go_wp2_with fail
  go_loopw [5] (fun i wr => ∃ k : Nat, k ≤ p ∧ i = .int .i64 k ∧ Hid (wr = w)) (fun i _ => p - (intOf i).toNat)
  case atStart => exact ⟨0, Nat.zero_le _, rfl, hide rfl⟩
  case round =>
    obtain ⟨k, hk, rfl, HW⟩ := hrel
    obtain rfl := HW.out
    by_cases hlt : k < p
    · have b1 : bits .and .i64 ((s : Int) / 2 ^ k) 1 = 0 := by rw [HB.out, HL3.out k hlt]; rfl
      go_wp2_with fail
      go_roundw
      case rel => exact ⟨k + 1, by omega, by go_num, by first | exact hide rfl | exact hide trivial⟩
      case measure => simp [intOf]; omega
    · obtain rfl : p = k := by omega
      have b1 : bits .and .i64 ((s : Int) / 2 ^ p) 1 = 1 := by rw [HB.out, HL1.out]; rfl
      go_wp2_with fail
      clear b1
      go_loopw [6, 7] (fun r i wi => ∃ k : Nat, k ≤ n ∧ i = .int .i64 k ∧ r = .int .i64 (it (reachF F s n n) k L : Nat) ∧ Hid (wi = wr)) (fun _ i _ => n - (intOf i).toNat)
      case atStart => exact ⟨0, Nat.zero_le _, rfl, rfl, hide rfl⟩
      case round =>
        obtain ⟨k, hk2, rfl, rfl, HW1⟩ := hrel
        obtain rfl := HW1.out
        by_cases hlt : k < n
        · have hlz : (k : Int) < (n : Int) := by omega
          have HR := hide (HIT.out k)
          have HNX := hide (show reachF F s n n (it (reachF F s n n) k L) = it (reachF F s n n) (k + 1) L from rfl)
          obtain ⟨R, hR⟩ : ∃ R, it (reachF F s n n) k L = R := ⟨_, rfl⟩
          rw [hR] at HR HNX ⊢
          clear hR
          go_wp2_with fail
          go_loopw [6, 8] (fun r i wi => ∃ f : Nat, f ≤ n ∧ i = .int .i64 f ∧ r = .int .i64 (reachF F s n f R : Nat) ∧ Hid (wi = wr)) (fun _ i _ => n - (intOf i).toNat)
          case atStart => exact ⟨0, Nat.zero_le _, rfl, rfl, hide rfl⟩
          case round =>
            obtain ⟨f, hf, rfl, rfl, HW2⟩ := hrel
            obtain rfl := HW2.out
            by_cases hlt2 : f < n
            · have hlz2 : (f : Int) < (n : Int) := by omega
              have HR2 := hide (reachF_lt (b := F) (set := s) HR.out f)
              have HNX2 := hide (show reachG F s f n (reachF F s n f R) = reachF F s n (f + 1) R from rfl)
              obtain ⟨R2, hR2⟩ : ∃ R2, reachF F s n f R = R2 := ⟨_, rfl⟩
              rw [hR2] at HR2 HNX2 ⊢
              clear hR2
              go_wp2_with fail
              go_loopw [6, 9] (fun r i wi => ∃ g : Nat, g ≤ n ∧ i = .int .i64 g ∧ r = .int .i64 (reachG F s f g R2 : Nat) ∧ Hid (wi = wr)) (fun _ i _ => n - (intOf i).toNat)
              case atStart => exact ⟨0, Nat.zero_le _, rfl, rfl, hide rfl⟩
              case round =>
                obtain ⟨g, hg, rfl, rfl, HW3⟩ := hrel
                obtain rfl := HW3.out
                by_cases hlt3 : g < n
                · have hlz3 : (g : Int) < (n : Int) := by omega
                  have hu := reachG_lt (b := F) (set := s) (f := f) HR2.out g (by omega)
                  have HNU := hide (show reachG F s f (g + 1) R2 = if (reachG F s f g R2).testBit f = true ∧ s.testBit g = true ∧ F f g = true then reachG F s f g R2 ||| 2 ^ g else reachG F s f g R2 from rfl)
                  obtain ⟨u, hu'⟩ : ∃ u, reachG F s f g R2 = u := ⟨_, rfl⟩
                  rw [hu'] at hu HNU ⊢
                  clear hu'
                  obtain ⟨gb, m1, m2, _, _, _, _, _⟩ := HM.out.at_ hlt2 hlt3
                  have b1 := bit_at u f (by omega)
                  have b2 := HB.out g
                  have b3 := or_shl (u := u) (f := g) (by omega) (by omega)
                  rw [← wrap64_eq] at b3
                  obtain ⟨z, hz⟩ : ∃ z, u ||| 2 ^ g = z := ⟨_, rfl⟩
                  rw [hz] at b3 HNU
                  obtain ⟨x, hx⟩ : ∃ x, F f g = x := ⟨_, rfl⟩
                  rw [hx] at m2 HNU
                  clear hx hz hu
                  cases hb1 : u.testBit f with
                  | false =>
                    have b1' : bits .and .i64 ((u : Int) / 2 ^ f) 1 = 0 := by rw [b1, hb1]; rfl
                    have HV := hide (show reachG F s f (g + 1) R2 = u by rw [HNU.out, if_neg (by rw [hb1]; simp)])
                    clear b1 b2 hb1
                    go_wp2_with fail
                    go_roundw
                    case rel => exact ⟨g + 1, by omega, by go_num, by rw [HV.out], by first | exact hide rfl | exact hide trivial⟩
                    case measure => simp [intOf]; omega
                  | true =>
                    rw [hb1, if_pos rfl] at b1
                    cases hb2 : s.testBit g with
                    | false =>
                      have b2' : bits .and .i64 ((s : Int) / 2 ^ g) 1 = 0 := by rw [b2, hb2]; rfl
                      have HV := hide (show reachG F s f (g + 1) R2 = u by rw [HNU.out, if_neg (by rw [hb2]; simp)])
                      clear b2 hb1 hb2
                      go_wp2_with fail
                      go_roundw
                      case rel => exact ⟨g + 1, by omega, by go_num, by rw [HV.out], by first | exact hide rfl | exact hide trivial⟩
                      case measure => simp [intOf]; omega
                    | true =>
                      rw [hb2, if_pos rfl] at b2
                      cases x with
                      | false =>
                        have HV := hide (show reachG F s f (g + 1) R2 = u by rw [HNU.out, if_neg (by simp)])
                        clear hb1 hb2
                        go_wp2_with fail
                        go_roundw
                        case rel => exact ⟨g + 1, by omega, by go_num, by rw [HV.out], by first | exact hide rfl | exact hide trivial⟩
                        case measure => simp [intOf]; omega
                      | true =>
                        have HV := hide (show reachG F s f (g + 1) R2 = z by rw [HNU.out, if_pos ⟨hb1, hb2, rfl⟩])
                        clear hb1 hb2
                        go_wp2_with fail
                        go_roundw
                        case rel => exact ⟨g + 1, by omega, by go_num, by rw [HV.out], by first | exact hide rfl | exact hide trivial⟩
                        case measure => simp [intOf]; omega
                · obtain rfl : g = n := by omega
                  go_wp2_with fail
                  go_roundw
                  case rel => exact ⟨f + 1, by omega, by go_num, by rw [HNX2.out], by first | exact hide rfl | exact hide trivial⟩
                  case measure => simp [intOf]; omega
            · obtain rfl : f = n := by omega
              go_wp2_with fail
              go_roundw
              case rel => exact ⟨k + 1, by omega, by go_num, by rw [HNX.out], by first | exact hide rfl | exact hide trivial⟩
              case measure => simp [intOf]; omega
        · obtain rfl : n = k := by omega
          go_wp2_with fail
          go_ret
          exact ⟨ret_bool (by rw [HVJ.out, int_beq]), rfl⟩
set_option maxRecDepth 20000 in
set_option maxHeartbeats 4000000 in
theorem sAreJoined_any (N E : List P2) (A B : Option Addr) (c c' : Nat) (set : Int) (w : World) (hw : WR w N E A B c c') :
    Calls Try.prog 33 #[.agg #[.slice A N.length c, .slice B E.length c'], .int .i64 set] w fun e w' => e = .returned (.bool (joinedI N E set)) ∧ Ext w w' := by
  have HFO := hide (fun (W : World) (hE : Ext w W) => (sFacesOf_any N E A B c c' W (hw.ext hE)).mono (R' := fun e w' => ∃ A2 c2, e = .returned (.slice A2 (fcs N E).length c2) ∧ Ext W w') (by rintro e w' ⟨A2, c2, h1, _, _, h2⟩; exact ⟨A2, c2, h1, h2⟩))
  have HOF := hide (fun (W : World) (hE : Ext w W) => sOuterFace_any N E A B c c' W (hw.ext hE))
  have HBS := hide (fun (hwh : wholeB N E = true) (W : World) (hE : Ext w W) => l13Beside_any N E A B c c' W (hw.ext hE) hwh)
  have HWH := hide (fcs_whole (N := N) (E := E))
  have HOL := hide (fun (hwh : wholeB N E = true) => outer_nat hwh)
  have hl40 := fcs_len (N := N) (E := E)
  obtain ⟨n, hn⟩ : ∃ n, (fcs N E).length = n := ⟨_, rfl⟩
  obtain ⟨o, ho⟩ : ∃ o, oN N E = o := ⟨_, rfl⟩
  obtain ⟨v, hv⟩ : ∃ v, joinedI N E set = v := ⟨_, rfl⟩
  rw [hn] at hl40 HFO HBS HWH HOL
  have HVAL := hide (show v = (decide (1 ≤ n) && (decide (n ≤ 20) && (inR set 1 ((2 ^ n - 1 : Nat) : Int) && (!set.toNat.testBit o && joinedB (besTo (sd N E) E.length) set.toNat n)))) by rw [← hv, ← hn, ← ho]; rfl)
  rw [ho] at HOL
  rw [hv]
  clear hw hn ho hv
  
  go_enter Try.func33, Try.ntmps33
  go_wp2_with fail
  obtain ⟨w0, hw⟩ : ∃ w1, w1 = w.alloc (Obj.cells #[Value.slice A N.length c, Value.slice B E.length c'] 27) := ⟨_, rfl⟩; rw [← hw]; have kT : Tr [(w.heap.size, [.slice A N.length c, .slice B E.length c'])] w w0 := (by rw [hw]; exact ⟨by (first | (simp [Bx, CellsAt, go_sem, *]; done) | (simp [Bx, CellsAt, go_sem, *]; omega)), by (repeat (first | exact kE | exact Ext.refl _ | apply Ext.alloc | apply Ext.drewN | apply Ext.drew | apply Ext.set0 | apply Ext.set1 | apply Ext.set2 | apply Ext.set3 | (refine Ext.setk ?_ (by omega) _) | (apply Ext.snoc; assumption)))⟩); have HT := hide kT; clear hw kT; have kT := HT.out; simp only [Tr, Bx, CellsAt, Nat.reduceAdd, Nat.zero_add, and_true] at kT; obtain ⟨⟨kz0, kf0, kc0_0, kc0_1⟩, kE⟩ := kT
  refine (HFO.out _ kE).mono ?_
  rintro e w2 ⟨A2, c2, rfl, hb2⟩
  have HT' := hide (HT.out.ext hb2)
  clear hb2 HT
  have HT := HT'
  clear HT'
  clear kz0 kf0 kc0_0 kc0_1 kE
  have kT := HT.out; simp only [Tr, Bx, CellsAt, Nat.reduceAdd, Nat.zero_add, and_true] at kT; obtain ⟨⟨kz0, kf0, kc0_0, kc0_1⟩, kE⟩ := kT
  have HW2 := hide kE
  have hwi := fun W => l01In_any n 1 20 W
  have HWI := hide hwi
  clear hwi
  cases hin1 : inR (n : Int) 1 20 with
  | false =>
    rw [hin1] at HWI
    have HV := hide (show v = false by
      rw [HVAL.out]
      simp [inR] at hin1
      by_cases h1 : 1 ≤ n
      · rw [decide_eq_false (show ¬ n ≤ 20 by omega)]; simp
      · rw [decide_eq_false h1]; rfl)
    clear hin1
    go_wp2_with (go_at_call 95; refine (HWI.out _).mono ?_; rintro e w' ⟨rfl, rfl⟩)
    go_ret
    exact ⟨ret_bool HV.out.symm, HW2.out⟩
  | true =>
  rw [hin1] at HWI
  have hn1 : 1 ≤ n ∧ n ≤ 20 := by simp [inR] at hin1; omega
  clear hin1
  have hwi := fun W => (l01In_any set 1 (wrap64 (wrap64 ((2 : Int) ^ n) - 1)) W).mono (R' := fun e w' => e = .returned (.bool (inR set 1 ((2 ^ n - 1 : Nat) : Int))) ∧ W = w') (by rintro e w' ⟨rfl, rfl⟩; rw [wrap64_eq, wrap64_eq, pow_pred (by omega)]; exact ⟨rfl, rfl⟩)
  have HWI2 := hide hwi
  clear hwi
  cases hin : inR set 1 ((2 ^ n - 1 : Nat) : Int) with
  | false =>
    rw [hin] at HWI2
    have HV := hide (show v = false by rw [HVAL.out, hin]; simp)
    clear hin
    go_wp2_with fail
    (refine (HWI.out _).mono ?_; rintro e w' ⟨rfl, rfl⟩)
    go_wp2_with fail
    (refine (HWI2.out _).mono ?_; rintro e w' ⟨rfl, rfl⟩)
    go_wp2_with fail
    go_ret
    exact ⟨ret_bool HV.out.symm, HW2.out⟩
  | true =>
    rw [hin] at HWI2
    obtain ⟨s, rfl, hs0, hsP⟩ := in_nat hin
    have hwh := HWH.out (by omega)
    obtain ⟨hoe, hon⟩ := HOL.out hwh
    have HP := hide (HBS.out hwh)
    rw [hoe] at HOF
    have HV0 := hide (show v = (!s.testBit o && joinedB (besTo (sd N E) E.length) s n) by rw [HVAL.out, hin, decide_eq_true hn1.1, decide_eq_true hn1.2]; simp)
    have hp20 : 2 ^ n ≤ 2 ^ 20 := Nat.pow_le_pow_right (by decide) hn1.2
    have b1 := bit_at s o (by omega)
    have HIN := hide hin
    clear hin hwh HBS HWH HOL HFO hoe
    cases hb : s.testBit o with
    | true =>
      rw [hb, if_pos rfl] at b1
      have HV := hide (show v = false by rw [HV0.out, hb]; rfl)
      clear hb hp20
      have HS := hide (And.intro hs0 hsP)
      clear hs0 hsP
      go_wp2_with fail
      (refine (HWI.out _).mono ?_; rintro e w' ⟨rfl, rfl⟩)
      go_wp2_with fail
      (refine (HWI2.out _).mono ?_; rintro e w' ⟨rfl, rfl⟩)
      go_wp2_with (first | (go_at_call 60; refine (HOF.out _ HW2.out).mono ?_; rintro e w5 ⟨rfl, hb5⟩))
      have HE5 := hide (HW2.out.trans hb5)
      clear hb5
      go_ret
      exact ⟨ret_bool HV.out.symm, HE5.out⟩
    | false =>
      have b1' : bits .and .i64 ((s : Int) / 2 ^ o) 1 = 0 := by rw [b1, hb]; rfl
      have HV1 := hide (show v = joinedB (besTo (sd N E) E.length) s n by rw [HV0.out, hb]; rfl)
      clear hb b1
      have HS := hide (And.intro hs0 hsP)
      clear hs0 hsP
      have HJ := hide (fun hd c2 B U W hM => l17Joined_any n hd c2 B U s (besTo (sd N E) E.length) W hM HS.out.1 HS.out.2 hn1.2)
      rw [← HV1.out] at HJ
      go_wp2_with fail
      (refine (HWI.out _).mono ?_; rintro e w' ⟨rfl, rfl⟩)
      go_wp2_with fail
      (refine (HWI2.out _).mono ?_; rintro e w' ⟨rfl, rfl⟩)
      go_wp2_with (first | (go_at_call 60; refine (HOF.out _ HW2.out).mono ?_; rintro e w5 ⟨rfl, hb5⟩; have HT := hide (HT.out.ext hb5); clear hb5; clear kz0 kf0 kc0_0 kc0_1 kE; have kT := HT.out; simp only [Tr, Bx, CellsAt, Nat.reduceAdd, Nat.zero_add, and_true] at kT; obtain ⟨⟨kz0, kf0, kc0_0, kc0_1⟩, kE⟩ := kT; have HW5 := hide kE) | (go_at_call 99; refine (HP.out _ HW5.out).mono ?_; rintro e w6 ⟨hd, c6, U, rfl, hM, hb6⟩) | (go_at_call 98; refine (HJ.out _ _ _ _ _ hM).mono ?_; rintro e w' ⟨rfl, rfl⟩))
      have HE6 := hide (HW5.out.trans hb6)
      clear hb6 hM
      go_ret
      exact ⟨rfl, HE6.out⟩
end Go.Proofs.Ytkgbilbicdiadaa
