/- The walk of the program's AreJoined. No condition but that a list has at most 1048576 elements. -/
import Derived.Test.YtkgbilbicdiadaaPanes
import Derived.Test.YtkgbilbicdiadaaDual
import Derived.Test.YtkgbilbicdiadaaBes13
set_option linter.unusedSimpArgs false
set_option linter.unusedVariables false
namespace Go.Proofs.Ytkgbilbicdiadaa
open Go.RowKit

/-- A set of panes that hang together. -/
noncomputable def joinedI (N E : List P2) (set : Int) : Bool := decide (1 ≤ (fcs N E).length) && (decide ((fcs N E).length ≤ 20) && (inR set 1 ((2 ^ (fcs N E).length - 1 : Nat) : Int) && (!set.toNat.testBit (oN N E) && joinedB (besTo (sd N E) E.length) set.toNat (fcs N E).length)))
theorem and_neg {s n : Nat} (h0 : s ≠ 0) (h : s < 2 ^ n) (hn : n ≤ 60) : bits .and .i64 (s : Int) (IntKind.i64.wrap (-(s : Int))) = ((2 ^ lowOf s n : Nat) : Int) := by
  have hp : 2 ^ n ≤ 2 ^ 60 := Nat.pow_le_pow_right (by decide) hn
  have hl := (low_facts n s h0 h).2.1
  have hl2 : 2 ^ lowOf s n < 2 ^ n := Nat.pow_lt_pow_right (by decide) hl
  have e : (BitVec.ofInt 64 (s : Int) &&& BitVec.ofInt 64 (IntKind.i64.wrap (-(s : Int)))).toNat = 2 ^ lowOf s n := by
    rw [← low_bit h0 h (by omega), BitVec.toNat_and]
    congr 1
    · rw [BitVec.ofInt_natCast, BitVec.toNat_ofNat, Nat.mod_eq_of_lt (by omega)]
    · rw [BitVec.toNat_ofInt, IntKind.wrap_i64]
      omega
  show IntKind.i64.wrap ((BitVec.ofInt 64 (s : Int) &&& BitVec.ofInt 64 (IntKind.i64.wrap (-(s : Int)))).toNat : Nat) = _
  rw [e, IntKind.wrap_i64]
  omega
/-- A set lies in the set of panes just if it has not the outer face. -/
theorem panes_sub {n o s : Nat} (hs : s < 2 ^ n) : (s ^^^ (s &&& panesN n o) = 0) ↔ s.testBit o = false := by
  constructor
  · intro h
    have := congrArg (fun x => Nat.testBit x o) h
    simpa [panes_bit] using this
  · intro h
    refine Nat.eq_of_testBit_eq fun i => ?_
    rw [Nat.testBit_xor, Nat.testBit_and, panes_bit, Nat.zero_testBit]
    cases hb : s.testBit i with
    | false => rfl
    | true =>
      have h1 := bit_lt hs hb
      have h2 : i ≠ o := fun e => by rw [e, h] at hb; cases hb
      simp [h1, h2]
theorem in_nat {set : Int} {P : Nat} (h : inR set 1 ((P - 1 : Nat) : Int) = true) : ∃ s : Nat, set = (s : Nat) ∧ s ≠ 0 ∧ s < P := by
  simp [inR] at h
  exact ⟨set.toNat, by omega, by omega, by omega⟩
theorem int_beq (a b : Nat) : ((a : Int) == (b : Int)) = (a == b) := by rw [Bool.eq_iff_iff]; simp; omega
set_option maxRecDepth 20000 in
set_option maxHeartbeats 4000000 in
theorem AreJoined_any (N E : List P2) (A B : Option Addr) (c c' : Nat) (set : Int) (w : World) (hw : WR w N E A B c c') :
    Calls Try.prog 35 #[.agg #[.slice A N.length c, .slice B E.length c'], .int .i64 set] w fun e w' => e = .returned (.bool (joinedI N E set)) ∧ Ext w w' := by
  have HFO := hide (fun (W : World) (hE : Ext w W) => (FacesOf_any N E A B c c' W (hw.ext hE)).mono (R' := fun e w' => ∃ A2 c2, e = .returned (.slice A2 (fcs N E).length c2) ∧ Ext W w') (by rintro e w' ⟨A2, c2, h1, _, _, _, _, h2⟩; exact ⟨A2, c2, h1, h2⟩))
  have HPS := hide (fun (hwh : wholeB N E = true) (W : World) (hE : Ext w W) => paneSet_any N E A B c c' W (hw.ext hE) hwh)
  have HNB := hide (fun (hwh : wholeB N E = true) (W : World) (hE : Ext w W) => neighbors_any N E A B c c' W (hw.ext hE) hwh)
  have HWH := hide (fcs_whole (N := N) (E := E))
  have HOL := hide (fun (hwh : wholeB N E = true) => (outer_nat hwh).2)
  have hl40 := fcs_len (N := N) (E := E)
  obtain ⟨n, hn⟩ : ∃ n, (fcs N E).length = n := ⟨_, rfl⟩
  obtain ⟨o, ho⟩ : ∃ o, oN N E = o := ⟨_, rfl⟩
  obtain ⟨v, hv⟩ : ∃ v, joinedI N E set = v := ⟨_, rfl⟩
  rw [hn] at hl40 HFO HPS HNB HWH HOL
  have HVAL := hide (show v = (decide (1 ≤ n) && (decide (n ≤ 20) && (inR set 1 ((2 ^ n - 1 : Nat) : Int) && (!set.toNat.testBit o && joinedB (besTo (sd N E) E.length) set.toNat n)))) by rw [← hv, ← hn, ← ho]; rfl)
  rw [ho] at HPS HOL
  have HSD := hide (fun (hwh : wholeB N E = true) (d : Nat) => (show sd N E d < n by rw [← hn]; exact sd_lt hwh d))
  rw [hv]
  clear hw hn ho hv
  
  go_enter Try.func35, Try.ntmps35
  go_wp2_with fail
  obtain ⟨w0, hw⟩ : ∃ w1, w1 = w.alloc (Obj.cells #[Value.slice A N.length c, Value.slice B E.length c'] 27) := ⟨_, rfl⟩; rw [← hw]; have kT : Tr [(w.heap.size, [.slice A N.length c, .slice B E.length c'])] w w0 := (by rw [hw]; exact ⟨by (first | (simp [Bx, CellsAt, go_sem, *]; done) | (simp [Bx, CellsAt, go_sem, *]; omega)), by (repeat (first | exact kE | exact Ext.refl _ | apply Ext.alloc | apply Ext.drewN | apply Ext.drew | apply Ext.set0 | apply Ext.set1 | apply Ext.set2 | apply Ext.set3 | (refine Ext.setk ?_ (by omega) _) | (apply Ext.snoc; assumption)))⟩); have HT := hide kT; clear hw kT; have kT := HT.out; simp only [Tr, Bx, CellsAt, Nat.reduceAdd, Nat.zero_add, and_true] at kT; obtain ⟨⟨kz0, kf0, kc0_0, kc0_1⟩, kE⟩ := kT
  refine (HFO.out _ kE).mono ?_
  rintro e w2 ⟨A2, c2, rfl, hb2⟩
  have HT' := hide (HT.out.ext hb2)
  clear hb2 HT
  have HT := HT'
  clear HT'
  clear kz0 kf0 kc0_0 kc0_1 kE
  have kT := HT.out; simp only [Tr, Bx, CellsAt, Nat.reduceAdd, Nat.zero_add, and_true] at kT; obtain ⟨⟨kz0, kf0, kc0_0, kc0_1⟩, kE⟩ := kT
  have HW2 := hide kE
  by_cases h0 : n = 0
  · subst h0
    have HV := hide (show v = false by rw [HVAL.out]; rfl)
    go_wp2_with fail
    go_ret
    exact ⟨ret_bool HV.out.symm, HW2.out⟩
  have HN0 := hide h0
  have t1 : ((n : Int) == 0) = false := by simp; omega
  have t1' : (n == 0) = false := by simp; omega
  clear h0
  by_cases h20 : 20 < n
  · have HV := hide (show v = false by rw [HVAL.out, decide_eq_false (show ¬ n ≤ 20 by omega)]; simp)
    have t2 : decide ((n : Int) > 20) = true := decide_eq_true (by omega)
    have t3 : decide (n > 20) = true := decide_eq_true (by omega)
    go_wp2_with fail
    go_ret
    exact ⟨ret_bool HV.out.symm, HW2.out⟩
  have t2 : decide ((n : Int) > 20) = false := decide_eq_false (by omega)
  have t3 : decide (n > 20) = false := decide_eq_false (by omega)
  have t4 : ¬ (n : Int) > 20 := by omega
  have hwi := fun W => (within_any set 1 (wrap64 (wrap64 ((2 : Int) ^ n) - 1)) W).mono (R' := fun e w' => e = .returned (.bool (inR set 1 ((2 ^ n - 1 : Nat) : Int))) ∧ W = w') (by rintro e w' ⟨rfl, rfl⟩; rw [wrap64_eq, wrap64_eq, pow_pred (by omega)]; exact ⟨rfl, rfl⟩)
  have HWI := hide hwi
  clear hwi
  cases hin : inR set 1 ((2 ^ n - 1 : Nat) : Int) with
  | false =>
    rw [hin] at HWI
    have HV := hide (show v = false by rw [HVAL.out, hin]; simp)
    clear hin
    go_wp2_with (go_at_call 101; refine (HWI.out _).mono ?_; rintro e w' ⟨rfl, rfl⟩)
    go_ret
    exact ⟨ret_bool HV.out.symm, HW2.out⟩
  | true =>
    rw [hin] at HWI
    obtain ⟨s, rfl, hs0, hsP⟩ := in_nat hin
    have hwh := HWH.out (Nat.pos_of_ne_zero HN0.out)
    have hon := HOL.out hwh
    have HP := hide (HPS.out hwh)
    have HN := hide (HNB.out hwh)
    have HD := hide (HSD.out hwh)
    have HV0 := hide (show v = (!s.testBit o && joinedB (besTo (sd N E) E.length) s n) by rw [HVAL.out, hin, decide_eq_true (show 1 ≤ n from Nat.pos_of_ne_zero HN0.out), decide_eq_true (show n ≤ 20 by omega)]; simp)
    have hp20 : 2 ^ n ≤ 2 ^ 20 := Nat.pow_le_pow_right (by decide) (by omega)
    have hpl := panes_lt n o
    have hq := i64_andNot s (panesN n o) (by omega) (by omega)
    have hqs := panes_sub (o := o) hsP
    obtain ⟨r, hr⟩ : ∃ r, s ^^^ (s &&& panesN n o) = r := ⟨_, rfl⟩
    rw [hr] at hq hqs
    obtain ⟨P, hP⟩ : ∃ P, panesN n o = P := ⟨_, rfl⟩
    rw [hP] at hq HP
    have HIN := hide hin
    clear hin hwh HPS HNB HSD HWH HOL HFO hpl hr hP
    cases hb : s.testBit o with
    | true =>
      rw [hb] at hqs
      have hr0 : r ≠ 0 := by rw [ne_eq, hqs]; simp
      have q1 : ((r : Int) != 0) = true := by simp; omega
      have q2 : (r != 0) = true := by simp; omega
      have q3 : ((r : Int) == 0) = false := by simp; omega
      have HV := hide (show v = false by rw [HV0.out, hb]; rfl)
      clear hb hqs hp20 hr0
      have HS := hide (And.intro hs0 hsP)
      clear hs0 hsP
      go_wp2_with (first | (go_at_call 101; refine (HWI.out _).mono ?_; rintro e w' ⟨rfl, rfl⟩) | (go_at_call 102; refine (HP.out _ HW2.out).mono ?_; rintro e w5 ⟨rfl, hb5⟩))
      have HE5 := hide (HW2.out.trans hb5)
      clear hb5
      go_ret
      exact ⟨ret_bool HV.out.symm, HE5.out⟩
    | false =>
      rw [hb] at hqs
      obtain rfl : r = 0 := hqs.2 rfl
      have hq' : bits .andNot .i64 (s : Int) (P : Int) = 0 := hq
      have HV1 := hide (show v = joinedB (besTo (sd N E) E.length) s n by rw [HV0.out, hb]; rfl)
      clear hb hqs hq
      have HS := hide (And.intro hs0 hsP)
      have han := and_neg hs0 hsP (by omega)
      have hLP := Nat.pow_lt_pow_right (show 1 < 2 by decide) (low_facts n s hs0 hsP).2.1
      rw [← wrap64_eq] at han
      have hnb : ∀ f g, (nearV N E f).testBit g = besTo (sd N E) E.length f g := near_bit (sd N E) E.length
      have hnl : ∀ f, nearV N E f < 2 ^ n := near_lt HD.out E.length
      have HFIN := hide (joined_same (set := s) (n := n) (bes_comm (sd N E) E.length) hnb hs0 hsP)
      have HCL := hide (join_closing (set := s) (n := n) (bes_comm (sd N E) E.length) hnb)
      obtain ⟨nf, hnf⟩ : ∃ nf, nearV N E = nf := ⟨_, rfl⟩
      rw [hnf] at hnl HFIN HCL
      have HNE := hide hnf
      have HNL := hide hnl
      obtain ⟨L, hL⟩ : ∃ L, 2 ^ lowOf s n = L := ⟨_, rfl⟩
      rw [hL] at han HFIN hLP
      have HIT := hide (fun k => HCL.out.it_lt hLP k)
      clear hs0 hsP hnb hnl hnf hL HCL hLP
      go_wp2_with (first | (go_at_call 101; refine (HWI.out _).mono ?_; rintro e w' ⟨rfl, rfl⟩) | (go_at_call 102; refine (HP.out _ HW2.out).mono ?_; rintro e w5 ⟨rfl, hb5⟩; have HT := hide (HT.out.ext hb5); clear hb5; clear kz0 kf0 kc0_0 kc0_1 kE; have kT := HT.out; simp only [Tr, Bx, CellsAt, Nat.reduceAdd, Nat.zero_add, and_true] at kT; obtain ⟨⟨kz0, kf0, kc0_0, kc0_1⟩, kE⟩ := kT; have HW5 := hide kE) | (go_at_call 103; refine (HN.out _ HW5.out).mono ?_; rintro e w6 ⟨g, c6, rfl, hown, hb6⟩))
      have ho := hown
      rw [show (fun f => ((nearV N E f : Nat) : Int)) = fun f => ((nf f : Nat) : Int) from by rw [HNE.out]] at ho
      have HO := hide ho
      have HE6 := hide (HW5.out.trans hb6)
      clear hown ho hb6 HWI HP HN han hq'
      clear kz0 kf0 kc0_0 kc0_1 kE
      clear HT
      go_loopw [7, 41] (fun r i wr => ∃ k : Nat, k ≤ n ∧ i = .int .i64 k ∧ r = .int .i64 (it (joinTo nf s n) k L : Nat) ∧ Hid (wr = w6)) (fun _ i _ => n - (intOf i).toNat)
      case atStart => exact ⟨0, Nat.zero_le _, rfl, rfl, hide rfl⟩
      case round =>
        obtain ⟨k, hk, rfl, rfl, HW⟩ := hrel
        obtain rfl := HW.out
        by_cases hlt : k < n
        · have hlz : (k : Int) < (n : Int) := by omega
          have HR := hide (HIT.out k)
          have HNX := hide (show joinTo nf s n (it (joinTo nf s n) k L) = it (joinTo nf s n) (k + 1) L from rfl)
          obtain ⟨R, hR⟩ : ∃ R, it (joinTo nf s n) k L = R := ⟨_, rfl⟩
          rw [hR] at HR HNX ⊢
          clear hR
          go_wp2_with fail
          go_loopw [7, 45] (fun r i wi => ∃ f : Nat, f ≤ n ∧ i = .int .i64 f ∧ r = .int .i64 (joinTo nf s f R : Nat) ∧ Hid (wi = wr)) (fun _ i _ => n - (intOf i).toNat)
          case atStart => exact ⟨0, Nat.zero_le _, rfl, rfl, hide rfl⟩
          case round =>
            obtain ⟨f, hf, rfl, rfl, HW'⟩ := hrel
            obtain rfl := HW'.out
            by_cases hlt2 : f < n
            · have hlz2 : (f : Int) < (n : Int) := by omega
              have hu := join_lt (near := nf) (set := s) HR.out f (by omega)
              have HNU := hide (show joinTo nf s (f + 1) R = if s.testBit f = true ∧ nf f &&& joinTo nf s f R ≠ 0 then joinTo nf s f R ||| 2 ^ f else joinTo nf s f R from rfl)
              obtain ⟨u, hu'⟩ : ∃ u, joinTo nf s f R = u := ⟨_, rfl⟩
              rw [hu'] at hu HNU ⊢
              clear hu'
              have cn := own_cellR HO.out hlt2
              have hnl := HNL.out f
              have hsP := HS.out.2
              have b1 := bit_at s f (by omega)
              have b2 := i64_and (nf f) u (by omega) (by omega)
              have b3 := or_shl (u := u) (f := f) (by omega) (by omega)
              rw [← wrap64_eq] at b3
              obtain ⟨x, hx⟩ : ∃ x, nf f = x := ⟨_, rfl⟩
              rw [hx] at cn b2 HNU hnl
              clear hx
              obtain ⟨y, hy⟩ : ∃ y, x &&& u = y := ⟨_, rfl⟩
              obtain ⟨z, hz⟩ : ∃ z, u ||| 2 ^ f = z := ⟨_, rfl⟩
              rw [hy] at b2 HNU
              rw [hz] at b3 HNU
              clear hy hz hsP hnl hu
              cases hb : s.testBit f with
              | true =>
                rw [hb, if_pos rfl] at b1
                by_cases hy0 : y = 0
                · subst hy0
                  have b2' : bits .and .i64 (x : Int) (u : Int) = 0 := b2
                  have HV := hide (show joinTo nf s (f + 1) R = u by rw [HNU.out, if_neg (by simp)])
                  clear b2 hb
                  go_wp2_with fail
                  go_roundw
                  case rel => exact ⟨f + 1, by omega, by go_num, by rw [HV.out], by first | exact hide rfl | exact hide trivial⟩
                  case measure => simp [intOf]; omega
                · have q1 : ((y : Int) != 0) = true := by simp; omega
                  have q2 : (y != 0) = true := by simp; omega
                  have q3 : ((y : Int) == 0) = false := by simp; omega
                  have HV := hide (show joinTo nf s (f + 1) R = z by rw [HNU.out, if_pos ⟨hb, hy0⟩])
                  clear hb hy0
                  go_wp2_with fail
                  go_roundw
                  case rel => exact ⟨f + 1, by omega, by go_num, by rw [HV.out], by first | exact hide rfl | exact hide trivial⟩
                  case measure => simp [intOf]; omega
              | false =>
                have b1' : bits .and .i64 ((s : Int) / 2 ^ f) 1 = 0 := by rw [b1, hb]; rfl
                have HV := hide (show joinTo nf s (f + 1) R = u by rw [HNU.out, if_neg (by rw [hb]; simp)])
                clear b1 hb
                go_wp2_with fail
                go_roundw
                case rel => exact ⟨f + 1, by omega, by go_num, by rw [HV.out], by first | exact hide rfl | exact hide trivial⟩
                case measure => simp [intOf]; omega
            · obtain rfl : f = n := by omega
              go_wp2_with fail
              go_roundw
              case rel => exact ⟨k + 1, by omega, by go_num, by rw [HNX.out], by first | exact hide rfl | exact hide trivial⟩
              case measure => simp [intOf]; omega
        · obtain rfl : n = k := by omega
          go_wp2_with fail
          go_ret
          exact ⟨ret_bool (by rw [HV1.out, ← HFIN.out, int_beq]), HE6.out⟩
end Go.Proofs.Ytkgbilbicdiadaa
namespace Go.Proofs.Ytkgbilbicdiadaa
open Go.RowKit

set_option maxRecDepth 20000 in
set_option maxHeartbeats 4000000 in
theorem l17Joined_any (n hd c2 B U s : Nat) (F : Nat → Nat → Bool) (w : World) (hM : MatB w B U hd n 99 4 F) (h0 : s ≠ 0) (h : s < 2 ^ n) (hn : n ≤ 20) :
    Calls Try.prog 98 #[.slice (some ⟨hd, 0, none⟩) n c2, .int .i64 (s : Nat)] w fun e w' => e = .returned (.bool (joinedB F s n)) ∧ w = w' := by
  have HM := hide hM
  have hp20 : 2 ^ n ≤ 2 ^ 20 := Nat.pow_le_pow_right (by decide) hn
  have hs62 : s < 2 ^ 62 := by omega
  obtain ⟨l1, l2, l3⟩ := low_facts n s h0 h
  have HCL := hide (reach_closing F s n)
  have HV := hide (show joinedB F s n = _ from rfl)
  have HB := hide (fun i => bit_at s i hs62)
  obtain ⟨p, hp⟩ : ∃ p, lowOf s n = p := ⟨_, rfl⟩
  rw [hp] at l1 l2 l3
  have HL1 := hide l1
  have HL3 := hide l3
  have hLP := Nat.pow_lt_pow_right (show 1 < 2 by decide) l2
  have HVJ := hide (show joinedB F s n = (it (reachF F s n n) n (2 ^ p) == s) by rw [← hp]; rfl)
  obtain ⟨v, hv⟩ : ∃ v, joinedB F s n = v := ⟨_, rfl⟩
  rw [hv] at HVJ ⊢
  have hsh := shl_one (show p < 62 by omega)
  rw [← wrap64_eq] at hsh
  obtain ⟨L, hL⟩ : ∃ L, 2 ^ p = L := ⟨_, rfl⟩
  rw [hL] at hLP HVJ hsh
  have HIT := hide (fun k => HCL.out.it_lt hLP k)
  have HSS := hide (And.intro h0 h)
  clear hM h0 h hs62 l1 l3 hp HV hv hL hLP HCL
  go_enter Try.func98, Try.ntmps98
  go_wp2_with fail
  go_loopw [5] (fun i wr => ∃ k : Nat, k ≤ p ∧ i = .int .i64 k ∧ Hid (wr = w)) (fun i _ => p - (intOf i).toNat)
  case atStart => exact ⟨0, Nat.zero_le _, rfl, hide rfl⟩
  case round =>
    obtain ⟨k, hk, rfl, HW⟩ := hrel
    obtain rfl := HW.out
    by_cases hlt : k < p
    · have b1 : bits .and .i64 ((s : Int) / 2 ^ k) 1 = 0 := by rw [HB.out, HL3.out k hlt]; rfl
      go_wp2_with fail
      go_roundw
      case rel => exact ⟨k + 1, by omega, by go_num, by first | exact hide rfl | exact hide trivial⟩
      case measure => simp [intOf]; omega
    · obtain rfl : p = k := by omega
      have b1 : bits .and .i64 ((s : Int) / 2 ^ p) 1 = 1 := by rw [HB.out, HL1.out]; rfl
      go_wp2_with fail
      clear b1
      go_loopw [6, 7] (fun r i wi => ∃ k : Nat, k ≤ n ∧ i = .int .i64 k ∧ r = .int .i64 (it (reachF F s n n) k L : Nat) ∧ Hid (wi = wr)) (fun _ i _ => n - (intOf i).toNat)
      case atStart => exact ⟨0, Nat.zero_le _, rfl, rfl, hide rfl⟩
      case round =>
        obtain ⟨k, hk2, rfl, rfl, HW1⟩ := hrel
        obtain rfl := HW1.out
        by_cases hlt : k < n
        · have hlz : (k : Int) < (n : Int) := by omega
          have HR := hide (HIT.out k)
          have HNX := hide (show reachF F s n n (it (reachF F s n n) k L) = it (reachF F s n n) (k + 1) L from rfl)
          obtain ⟨R, hR⟩ : ∃ R, it (reachF F s n n) k L = R := ⟨_, rfl⟩
          rw [hR] at HR HNX ⊢
          clear hR
          go_wp2_with fail
          go_loopw [6, 8] (fun r i wi => ∃ f : Nat, f ≤ n ∧ i = .int .i64 f ∧ r = .int .i64 (reachF F s n f R : Nat) ∧ Hid (wi = wr)) (fun _ i _ => n - (intOf i).toNat)
          case atStart => exact ⟨0, Nat.zero_le _, rfl, rfl, hide rfl⟩
          case round =>
            obtain ⟨f, hf, rfl, rfl, HW2⟩ := hrel
            obtain rfl := HW2.out
            by_cases hlt2 : f < n
            · have hlz2 : (f : Int) < (n : Int) := by omega
              have HR2 := hide (reachF_lt (b := F) (set := s) HR.out f)
              have HNX2 := hide (show reachG F s f n (reachF F s n f R) = reachF F s n (f + 1) R from rfl)
              obtain ⟨R2, hR2⟩ : ∃ R2, reachF F s n f R = R2 := ⟨_, rfl⟩
              rw [hR2] at HR2 HNX2 ⊢
              clear hR2
              go_wp2_with fail
              go_loopw [6, 9] (fun r i wi => ∃ g : Nat, g ≤ n ∧ i = .int .i64 g ∧ r = .int .i64 (reachG F s f g R2 : Nat) ∧ Hid (wi = wr)) (fun _ i _ => n - (intOf i).toNat)
              case atStart => exact ⟨0, Nat.zero_le _, rfl, rfl, hide rfl⟩
              case round =>
                obtain ⟨g, hg, rfl, rfl, HW3⟩ := hrel
                obtain rfl := HW3.out
                by_cases hlt3 : g < n
                · have hlz3 : (g : Int) < (n : Int) := by omega
                  have hu := reachG_lt (b := F) (set := s) (f := f) HR2.out g (by omega)
                  have HNU := hide (show reachG F s f (g + 1) R2 = if (reachG F s f g R2).testBit f = true ∧ s.testBit g = true ∧ F f g = true then reachG F s f g R2 ||| 2 ^ g else reachG F s f g R2 from rfl)
                  obtain ⟨u, hu'⟩ : ∃ u, reachG F s f g R2 = u := ⟨_, rfl⟩
                  rw [hu'] at hu HNU ⊢
                  clear hu'
                  obtain ⟨gb, m1, m2, _, _, _, _, _⟩ := HM.out.at_ hlt2 hlt3
                  have b1 := bit_at u f (by omega)
                  have b2 := HB.out g
                  have b3 := or_shl (u := u) (f := g) (by omega) (by omega)
                  rw [← wrap64_eq] at b3
                  obtain ⟨z, hz⟩ : ∃ z, u ||| 2 ^ g = z := ⟨_, rfl⟩
                  rw [hz] at b3 HNU
                  obtain ⟨x, hx⟩ : ∃ x, F f g = x := ⟨_, rfl⟩
                  rw [hx] at m2 HNU
                  clear hx hz hu
                  cases hb1 : u.testBit f with
                  | false =>
                    have b1' : bits .and .i64 ((u : Int) / 2 ^ f) 1 = 0 := by rw [b1, hb1]; rfl
                    have HV := hide (show reachG F s f (g + 1) R2 = u by rw [HNU.out, if_neg (by rw [hb1]; simp)])
                    clear b1 b2 hb1
                    go_wp2_with fail
                    go_roundw
                    case rel => exact ⟨g + 1, by omega, by go_num, by rw [HV.out], by first | exact hide rfl | exact hide trivial⟩
                    case measure => simp [intOf]; omega
                  | true =>
                    rw [hb1, if_pos rfl] at b1
                    cases hb2 : s.testBit g with
                    | false =>
                      have b2' : bits .and .i64 ((s : Int) / 2 ^ g) 1 = 0 := by rw [b2, hb2]; rfl
                      have HV := hide (show reachG F s f (g + 1) R2 = u by rw [HNU.out, if_neg (by rw [hb2]; simp)])
                      clear b2 hb1 hb2
                      go_wp2_with fail
                      go_roundw
                      case rel => exact ⟨g + 1, by omega, by go_num, by rw [HV.out], by first | exact hide rfl | exact hide trivial⟩
                      case measure => simp [intOf]; omega
                    | true =>
                      rw [hb2, if_pos rfl] at b2
                      cases x with
                      | false =>
                        have HV := hide (show reachG F s f (g + 1) R2 = u by rw [HNU.out, if_neg (by simp)])
                        clear hb1 hb2
                        go_wp2_with fail
                        go_roundw
                        case rel => exact ⟨g + 1, by omega, by go_num, by rw [HV.out], by first | exact hide rfl | exact hide trivial⟩
                        case measure => simp [intOf]; omega
                      | true =>
                        have HV := hide (show reachG F s f (g + 1) R2 = z by rw [HNU.out, if_pos ⟨hb1, hb2, rfl⟩])
                        clear hb1 hb2
                        go_wp2_with fail
                        go_roundw
                        case rel => exact ⟨g + 1, by omega, by go_num, by rw [HV.out], by first | exact hide rfl | exact hide trivial⟩
                        case measure => simp [intOf]; omega
                · obtain rfl : g = n := by omega
                  go_wp2_with fail
                  go_roundw
                  case rel => exact ⟨f + 1, by omega, by go_num, by rw [HNX2.out], by first | exact hide rfl | exact hide trivial⟩
                  case measure => simp [intOf]; omega
            · obtain rfl : f = n := by omega
              go_wp2_with fail
              go_roundw
              case rel => exact ⟨k + 1, by omega, by go_num, by rw [HNX.out], by first | exact hide rfl | exact hide trivial⟩
              case measure => simp [intOf]; omega
        · obtain rfl : n = k := by omega
          go_wp2_with fail
          go_ret
          exact ⟨ret_bool (by rw [HVJ.out, int_beq]), rfl⟩
set_option maxRecDepth 20000 in
set_option maxHeartbeats 4000000 in
theorem sAreJoined_any (N E : List P2) (A B : Option Addr) (c c' : Nat) (set : Int) (w : World) (hw : WR w N E A B c c') :
    Calls Try.prog 33 #[.agg #[.slice A N.length c, .slice B E.length c'], .int .i64 set] w fun e w' => e = .returned (.bool (joinedI N E set)) ∧ Ext w w' := by
  have HFO := hide (fun (W : World) (hE : Ext w W) => (sFacesOf_any N E A B c c' W (hw.ext hE)).mono (R' := fun e w' => ∃ A2 c2, e = .returned (.slice A2 (fcs N E).length c2) ∧ Ext W w') (by rintro e w' ⟨A2, c2, h1, _, _, h2⟩; exact ⟨A2, c2, h1, h2⟩))
  have HOF := hide (fun (W : World) (hE : Ext w W) => sOuterFace_any N E A B c c' W (hw.ext hE))
  have HBS := hide (fun (hwh : wholeB N E = true) (W : World) (hE : Ext w W) => l13Beside_any N E A B c c' W (hw.ext hE) hwh)
  have HWH := hide (fcs_whole (N := N) (E := E))
  have HOL := hide (fun (hwh : wholeB N E = true) => outer_nat hwh)
  have hl40 := fcs_len (N := N) (E := E)
  obtain ⟨n, hn⟩ : ∃ n, (fcs N E).length = n := ⟨_, rfl⟩
  obtain ⟨o, ho⟩ : ∃ o, oN N E = o := ⟨_, rfl⟩
  obtain ⟨v, hv⟩ : ∃ v, joinedI N E set = v := ⟨_, rfl⟩
  rw [hn] at hl40 HFO HBS HWH HOL
  have HVAL := hide (show v = (decide (1 ≤ n) && (decide (n ≤ 20) && (inR set 1 ((2 ^ n - 1 : Nat) : Int) && (!set.toNat.testBit o && joinedB (besTo (sd N E) E.length) set.toNat n)))) by rw [← hv, ← hn, ← ho]; rfl)
  rw [ho] at HOL
  rw [hv]
  clear hw hn ho hv
  
  go_enter Try.func33, Try.ntmps33
  go_wp2_with fail
  obtain ⟨w0, hw⟩ : ∃ w1, w1 = w.alloc (Obj.cells #[Value.slice A N.length c, Value.slice B E.length c'] 27) := ⟨_, rfl⟩; rw [← hw]; have kT : Tr [(w.heap.size, [.slice A N.length c, .slice B E.length c'])] w w0 := (by rw [hw]; exact ⟨by (first | (simp [Bx, CellsAt, go_sem, *]; done) | (simp [Bx, CellsAt, go_sem, *]; omega)), by (repeat (first | exact kE | exact Ext.refl _ | apply Ext.alloc | apply Ext.drewN | apply Ext.drew | apply Ext.set0 | apply Ext.set1 | apply Ext.set2 | apply Ext.set3 | (refine Ext.setk ?_ (by omega) _) | (apply Ext.snoc; assumption)))⟩); have HT := hide kT; clear hw kT; have kT := HT.out; simp only [Tr, Bx, CellsAt, Nat.reduceAdd, Nat.zero_add, and_true] at kT; obtain ⟨⟨kz0, kf0, kc0_0, kc0_1⟩, kE⟩ := kT
  refine (HFO.out _ kE).mono ?_
  rintro e w2 ⟨A2, c2, rfl, hb2⟩
  have HT' := hide (HT.out.ext hb2)
  clear hb2 HT
  have HT := HT'
  clear HT'
  clear kz0 kf0 kc0_0 kc0_1 kE
  have kT := HT.out; simp only [Tr, Bx, CellsAt, Nat.reduceAdd, Nat.zero_add, and_true] at kT; obtain ⟨⟨kz0, kf0, kc0_0, kc0_1⟩, kE⟩ := kT
  have HW2 := hide kE
  have hwi := fun W => l01In_any n 1 20 W
  have HWI := hide hwi
  clear hwi
  cases hin1 : inR (n : Int) 1 20 with
  | false =>
    rw [hin1] at HWI
    have HV := hide (show v = false by
      rw [HVAL.out]
      simp [inR] at hin1
      by_cases h1 : 1 ≤ n
      · rw [decide_eq_false (show ¬ n ≤ 20 by omega)]; simp
      · rw [decide_eq_false h1]; rfl)
    clear hin1
    go_wp2_with (go_at_call 95; refine (HWI.out _).mono ?_; rintro e w' ⟨rfl, rfl⟩)
    go_ret
    exact ⟨ret_bool HV.out.symm, HW2.out⟩
  | true =>
  rw [hin1] at HWI
  have hn1 : 1 ≤ n ∧ n ≤ 20 := by simp [inR] at hin1; omega
  clear hin1
  have hwi := fun W => (l01In_any set 1 (wrap64 (wrap64 ((2 : Int) ^ n) - 1)) W).mono (R' := fun e w' => e = .returned (.bool (inR set 1 ((2 ^ n - 1 : Nat) : Int))) ∧ W = w') (by rintro e w' ⟨rfl, rfl⟩; rw [wrap64_eq, wrap64_eq, pow_pred (by omega)]; exact ⟨rfl, rfl⟩)
  have HWI2 := hide hwi
  clear hwi
  cases hin : inR set 1 ((2 ^ n - 1 : Nat) : Int) with
  | false =>
    rw [hin] at HWI2
    have HV := hide (show v = false by rw [HVAL.out, hin]; simp)
    clear hin
    go_wp2_with fail
    (refine (HWI.out _).mono ?_; rintro e w' ⟨rfl, rfl⟩)
    go_wp2_with fail
    (refine (HWI2.out _).mono ?_; rintro e w' ⟨rfl, rfl⟩)
    go_wp2_with fail
    go_ret
    exact ⟨ret_bool HV.out.symm, HW2.out⟩
  | true =>
    rw [hin] at HWI2
    obtain ⟨s, rfl, hs0, hsP⟩ := in_nat hin
    have hwh := HWH.out (by omega)
    obtain ⟨hoe, hon⟩ := HOL.out hwh
    have HP := hide (HBS.out hwh)
    rw [hoe] at HOF
    have HV0 := hide (show v = (!s.testBit o && joinedB (besTo (sd N E) E.length) s n) by rw [HVAL.out, hin, decide_eq_true hn1.1, decide_eq_true hn1.2]; simp)
    have hp20 : 2 ^ n ≤ 2 ^ 20 := Nat.pow_le_pow_right (by decide) hn1.2
    have b1 := bit_at s o (by omega)
    have HIN := hide hin
    clear hin hwh HBS HWH HOL HFO hoe
    cases hb : s.testBit o with
    | true =>
      rw [hb, if_pos rfl] at b1
      have HV := hide (show v = false by rw [HV0.out, hb]; rfl)
      clear hb hp20
      have HS := hide (And.intro hs0 hsP)
      clear hs0 hsP
      go_wp2_with fail
      (refine (HWI.out _).mono ?_; rintro e w' ⟨rfl, rfl⟩)
      go_wp2_with fail
      (refine (HWI2.out _).mono ?_; rintro e w' ⟨rfl, rfl⟩)
      go_wp2_with (first | (go_at_call 60; refine (HOF.out _ HW2.out).mono ?_; rintro e w5 ⟨rfl, hb5⟩))
      have HE5 := hide (HW2.out.trans hb5)
      clear hb5
      go_ret
      exact ⟨ret_bool HV.out.symm, HE5.out⟩
    | false =>
      have b1' : bits .and .i64 ((s : Int) / 2 ^ o) 1 = 0 := by rw [b1, hb]; rfl
      have HV1 := hide (show v = joinedB (besTo (sd N E) E.length) s n by rw [HV0.out, hb]; rfl)
      clear hb b1
      have HS := hide (And.intro hs0 hsP)
      clear hs0 hsP
      have HJ := hide (fun hd c2 B U W hM => l17Joined_any n hd c2 B U s (besTo (sd N E) E.length) W hM HS.out.1 HS.out.2 hn1.2)
      rw [← HV1.out] at HJ
      go_wp2_with fail
      (refine (HWI.out _).mono ?_; rintro e w' ⟨rfl, rfl⟩)
      go_wp2_with fail
      (refine (HWI2.out _).mono ?_; rintro e w' ⟨rfl, rfl⟩)
      go_wp2_with (first | (go_at_call 60; refine (HOF.out _ HW2.out).mono ?_; rintro e w5 ⟨rfl, hb5⟩; have HT := hide (HT.out.ext hb5); clear hb5; clear kz0 kf0 kc0_0 kc0_1 kE; have kT := HT.out; simp only [Tr, Bx, CellsAt, Nat.reduceAdd, Nat.zero_add, and_true] at kT; obtain ⟨⟨kz0, kf0, kc0_0, kc0_1⟩, kE⟩ := kT; have HW5 := hide kE) | (go_at_call 99; refine (HP.out _ HW5.out).mono ?_; rintro e w6 ⟨hd, c6, U, rfl, hM, hb6⟩) | (go_at_call 98; refine (HJ.out _ _ _ _ _ hM).mono ?_; rintro e w' ⟨rfl, rfl⟩))
      have HE6 := hide (HW5.out.trans hb6)
      clear hb6 hM
      go_ret
      exact ⟨rfl, HE6.out⟩
end Go.Proofs.Ytkgbilbicdiadaa
