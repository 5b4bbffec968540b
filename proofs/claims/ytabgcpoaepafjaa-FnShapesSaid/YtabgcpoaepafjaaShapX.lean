/- The walk of the law on shapes. No condition but that the argument lies in memory. -/
import Derived.Test.YtabgcpoaepafjaaShapW
import Derived.Test.YtabgcpoaepafjaaDrawA
set_option linter.unusedSimpArgs false
set_option linter.unusedVariables false
namespace Go.Proofs.Ytabgcpoaepafjaa
open Go.RowKit

theorem cross_in {p q : P2} (hp : nodeOk p = true) (hq : nodeOk q = true) : 0 ≤ p.1 ∧ p.1 ≤ 20 ∧ 0 ≤ p.2 ∧ p.2 ≤ 20 ∧ 0 ≤ q.1 ∧ q.1 ≤ 20 ∧ 0 ≤ q.2 ∧ q.2 ≤ 20 ∧ -400 ≤ p.1 * q.2 ∧ p.1 * q.2 ≤ 400 ∧ -400 ≤ p.2 * q.1 ∧ p.2 * q.1 ≤ 400 := by
  have a := nodeOk_iff.1 hp
  have b := nodeOk_iff.1 hq
  have m1 := mul_in (x := p.1) (y := q.2) (m := 20) (n := 20) (by omega) (by omega) (by omega) (by omega)
  have m2 := mul_in (x := p.2) (y := q.1) (m := 20) (n := 20) (by omega) (by omega) (by omega) (by omega)
  omega
theorem cross_sum {S : List P2} (h : ∀ p ∈ S, nodeOk p = true) (h0 : 0 < S.length) : ∀ k : Nat, -800 * (k : Int) ≤ sumI (fun k => crossP (gp S k) (gp S (k + 1))) k ∧ sumI (fun k => crossP (gp S k) (gp S (k + 1))) k ≤ 800 * (k : Int)
  | 0 => by simp [sumI]
  | k + 1 => by
    have ih := cross_sum h h0 k
    have c := cross_in (h _ (gp_mem h0 k)) (h _ (gp_mem h0 (k + 1)))
    simp only [sumI]
    have e : crossP (gp S k) (gp S (k + 1)) = (gp S k).1 * (gp S (k + 1)).2 - (gp S k).2 * (gp S (k + 1)).1 := rfl
    push_cast
    omega
theorem ns_ds {S : List P2} (h : NS S) : ∀ p ∈ S, nodeOk p = true := fun p hp => by
  obtain ⟨i, hi, rfl⟩ := List.getElem_of_mem hp
  have := Shp.nodesOkB_at h.ok hi
  exact nodeOk_iff.2 ⟨⟨this.1, this.2.1⟩, this.2.2⟩
theorem turnV_len {S : List P2} (h : NS S) : (Shp.turnV S).length = S.length := by rw [turnV_of h, Shp.fit_length, Shp.turned_length]
theorem mirrorV_len {S : List P2} (h : NS S) : (Shp.mirrorV S).length = S.length := by rw [mirrorV_of h, Shp.fit_length, Shp.mirrored_length]
theorem NS.turnN {S : List P2} (h : NS S) : ∀ k, NS (Shp.turnN S k)
  | 0 => h
  | k + 1 => NS.turn (NS.turnN h k)
theorem turnN_len {S : List P2} (h : NS S) : ∀ k, (Shp.turnN S k).length = S.length
  | 0 => rfl
  | k + 1 => (turnV_len (h.turnN k)).trans (turnN_len h k)
theorem shI {N E Z : List P2} {AN AE : Option Addr} {cN cE f : Nat} {W : World} (hZ : shapeV N E (f : Nat) = Z) (hw : WR W N E AN AE cN cE) : Calls Try.prog 36 #[.agg #[.slice AN N.length cN, .slice AE E.length cE], .int .i64 (f : Int)] W fun e w' => ∃ A2 c2, e = .returned (.slice A2 Z.length c2) ∧ w'.ownsRow W.heap.size 50 2 (.slice A2 Z.length c2) Z.length (enc2 Z) ∧ Ext W w' := by
  subst hZ
  exact ShapeOf_any N E AN AE cN cE (f : Nat) W hw
theorem shJ {N E Z : List P2} {AN AE : Option Addr} {cN cE f : Nat} {W : World} (hZ : shapeV N E (f : Nat) = Z) (hw : WR W N E AN AE cN cE) : Calls Try.prog 38 #[.agg #[.slice AN N.length cN, .slice AE E.length cE], .int .i64 (f : Int)] W fun e w' => ∃ A2 c2, e = .returned (.slice A2 Z.length c2) ∧ w'.ownsRow W.heap.size 50 2 (.slice A2 Z.length c2) Z.length (enc2 Z) ∧ Ext W w' := by
  subst hZ
  exact sShapeOf_any N E AN AE cN cE (f : Nat) W hw
theorem shK {N E : List P2} {AN AE : Option Addr} {cN cE f n : Nat} {W : World} (hV : (paneV N E (f : Nat)).length = n) (hw : WR W N E AN AE cN cE) : Calls Try.prog 37 #[.agg #[.slice AN N.length cN, .slice AE E.length cE], .int .i64 (f : Int)] W fun e w' => ∃ A2 c2, e = .returned (.slice A2 n c2) ∧ Ext W w' := by
  subst hV
  exact (sPaneNodes_any N E AN AE cN cE (f : Nat) W hw).mono (by rintro e w' ⟨A2, c2, h1, _, h2⟩; exact ⟨A2, c2, h1, h2⟩)
theorem shL {Z : List P2} (hz : Shp.alikeB Z Z = true) (hl : Z.length ≤ 1048576) {W : World} {A1 A2 : Option Addr} {c1 c2 : Nat} (h1 : R2 W A1 Z) (h2 : R2 W A2 Z) : Calls Try.prog 33 #[.slice A1 Z.length c1, .slice A2 Z.length c2] W fun e w' => e = .returned (.bool true) ∧ Ext W w' := by
  have h := Shp.AreAlike_any Z A1 c1 Z A2 c2 W hl hl h1 h2
  rw [hz] at h
  exact h
set_option maxRecDepth 20000 in
set_option maxHeartbeats 8000000 in
theorem FnShapes_walk (l : List Int) (A0 : Option Addr) (cc : Nat) (w : World) (hl : l.length ≤ maxLen) (hr : RB w A0 l) :
    Calls Try.prog 5 #[.slice A0 l.length cc] w fun e w' => e = .returned (.bool true) ∧ Ext w w' := by
  by_cases hb : (1048576 : Int) < l.length
  · go_enter Try.func5, Try.ntmps5
    go_wp2_with fail
    refine (big_any l A0 cc _ hl).mono ?_; rintro e w1 ⟨rfl, rfl⟩
    rw [decide_eq_true (by omega)]
    go_wp2_with fail
    go_ret
    exact ⟨rfl, by repeat (first | exact kE | exact Ext.refl _ | apply Ext.alloc | apply Ext.drewN | apply Ext.drew | apply Ext.set0 | apply Ext.set1 | apply Ext.set2 | apply Ext.set3 | (refine Ext.setk ?_ (by omega) _) | (apply Ext.snoc; assumption))⟩
  · have HR := hide hr
    clear hr
    have hm : l.length ≤ 1048576 := by omega
    go_enter Try.func5, Try.ntmps5
    go_wp2_with fail
    refine (big_any l A0 cc _ hl).mono ?_; rintro e w1 ⟨rfl, rfl⟩
    rw [decide_eq_false (by omega)]
    go_wp2_with fail
    refine (DrawShape_any l A0 cc _ hm HR.out).mono ?_
    rintro e w1 ⟨S, A, c, rfl, hds, ho, hE⟩
    have HS := hide (Rds.of_own ho)
    have HE := hide hE
    have HDS := hide hds
    have HNS := hide hds.ns
    have hlen := hds.len
    have hpos := hds.ns.pos
    have HT4 := hide (turn_four hds.ns)
    clear ho hE hds
    go_wp2_with fail
    go_loopw [4, 5] (fun t i wr => ∃ (k : Nat) (At : Option Addr) (ct : Nat), k ≤ 4 ∧ i = .int .i64 k ∧ t = .slice At S.length ct ∧ Hid (Rds wr 2 At S.length (enc2 (Shp.turnN S k))) ∧ Hid (Ext w1 wr)) (fun _ i _ => 4 - (intOf i).toNat)
    case atStart => exact ⟨0, _, _, by omega, rfl, rfl, HS, hide (Ext.refl _)⟩
    case round =>
      obtain ⟨k, At, ct, hk, rfl, rfl, HT, HE1⟩ := hrel
      have hlk := turnN_len HNS.out k
      by_cases hk4 : k < 4
      · have HC := Shp.TurnShape_any (Shp.turnN S k) At ct wr (by omega) (by rw [show R2 wr At (Shp.turnN S k) ↔ Rds wr 2 At (Shp.turnN S k).length (enc2 (Shp.turnN S k)) from Iff.rfl, hlk]; exact HT.out)
        rw [show Shp.turnV (Shp.turnN S k) = Shp.turnN S (k + 1) from rfl, hlk, turnN_len HNS.out (k + 1)] at HC
        have HCH := hide HC
        clear HC hlk
        go_wp2_with fail
        refine HCH.out.mono ?_
        rintro e w2 ⟨Ar, cr, rfl, ho, hb2⟩
        have HO := hide (Rds.of_own ho)
        have HB := hide hb2
        clear ho hb2 HCH
        go_wp2_with fail
        go_roundw
        case rel => exact ⟨k + 1, _, _, by omega, by go_num, rfl, HO, hide (HE1.out.trans HB.out)⟩
        case measure => simp [intOf]; omega
      · obtain rfl : k = 4 := by omega
        clear hlk
        have HT := hide (show R2 wr At S from by
          have h := HT.out
          rw [show Shp.turnN S 4 = S from HT4.out] at h
          exact h)
        have HS := hide (Rds.ext HS.out HE1.out)
        have HE := hide (HE.out.trans HE1.out)
        clear HE1
        have HMc := hide (fun (W : World) (h : R2 W A S) => by have h2 := Shp.MirrorShape_any S A c W (by omega) h; rw [mirrorV_len HNS.out] at h2; exact h2)
        have HQc := hide (fun (W : World) (h : R2 W A S) => by have h2 := Shp.TurnShape_any S A c W (by omega) h; rw [turnV_len HNS.out] at h2; exact h2)
        obtain ⟨M, hM⟩ : ∃ M, Shp.mirrorV S = M := ⟨_, rfl⟩
        obtain ⟨Q, hQ⟩ : ∃ Q, Shp.turnV S = Q := ⟨_, rfl⟩
        have hMl : M.length = S.length := by rw [← hM]; exact mirrorV_len HNS.out
        have hQl : Q.length = S.length := by rw [← hQ]; exact turnV_len HNS.out
        have HM1 := hide (show Shp.mirrorV M = S from by rw [← hM]; exact mirror_two HNS.out)
        have HM2 := hide (show Shp.turnV (Shp.mirrorV Q) = M from by rw [← hM, ← hQ]; exact turn_mirror_turn HNS.out)
        have HNM := hide (show NS M from by rw [← hM]; exact HNS.out.mirror)
        have HNQ := hide (show NS Q from by rw [← hQ]; exact HNS.out.turn)
        have HSS := hide (show Shp.sameB S S = true ∧ Shp.sameB M M = true from ⟨same_self hpos, same_self (by omega)⟩)
        have HA1 := hide (show Shp.alikeB S Q = true ∧ Shp.alikeB Q S = true from by rw [← hQ]; exact ⟨alike_turn HNS.out, alike_back HNS.out⟩)
        have HA2 := hide (show Shp.mirroredB S M = true ∧ Shp.mirroredB M S = true from by rw [← hM]; exact mirrored_yes HNS.out)
        have HAR := hide (show arS Q = arS S from by rw [← hQ]; exact ar_turn HNS.out)
        rw [hM] at HMc
        rw [hQ] at HQc
        clear hM hQ
        have HML := hide hMl
        have HQL := hide hQl
        clear hMl hQl
        go_wp2_with fail
        refine (HMc.out _ HS.out).mono ?_
        rintro e w2 ⟨Am, cm, rfl, ho, hb⟩
        have HS := hide (Rds.ext HS.out hb)
        have HT := hide (Rds.ext HT.out hb)
        have HE := hide (HE.out.trans hb)
        have HM := hide (Rds.of_own ho); clear ho
        clear hb
        go_wp2_with fail
        refine (HQc.out _ HS.out).mono ?_
        rintro e w3 ⟨Aq, cq, rfl, ho, hb⟩
        have HS := hide (Rds.ext HS.out hb)
        have HT := hide (Rds.ext HT.out hb)
        have HM := hide (Rds.ext HM.out hb)
        have HE := hide (HE.out.trans hb)
        have HQ := hide (Rds.of_own ho); clear ho
        clear hb
        have HSA := hide (fun (W : World) (A1 A2 : Option Addr) (c1 c2 : Nat) (h1 : Rds W 2 A1 S.length (enc2 S)) (h2 : Rds W 2 A2 S.length (enc2 S)) => by have h := Shp.SameShape_any S A1 c1 S A2 c2 W (by omega) (by omega) h1 h2; rw [HSS.out.1] at h; exact h)
        have HSB := hide (fun (W : World) (A1 A2 : Option Addr) (c1 c2 : Nat) (h1 : Rds W 2 A1 S.length (enc2 M)) (h2 : Rds W 2 A2 S.length (enc2 M)) => by have h := Shp.SameShape_any M A1 c1 M A2 c2 W (by have := HML.out; omega) (by have := HML.out; omega) (by rw [show R2 W A1 M ↔ Rds W 2 A1 M.length (enc2 M) from Iff.rfl, HML.out]; exact h1) (by rw [show R2 W A2 M ↔ Rds W 2 A2 M.length (enc2 M) from Iff.rfl, HML.out]; exact h2); rw [HSS.out.2, HML.out] at h; exact h)
        have HMM := hide (fun (W : World) (A1 : Option Addr) (c1 : Nat) (h1 : Rds W 2 A1 S.length (enc2 M)) => by have h := Shp.MirrorShape_any M A1 c1 W (by have := HML.out; omega) (by rw [show R2 W A1 M ↔ Rds W 2 A1 M.length (enc2 M) from Iff.rfl, HML.out]; exact h1); rw [HM1.out, HML.out] at h; exact h)
        have HAL1 := hide (fun (W : World) (A1 A2 : Option Addr) (c1 c2 : Nat) (h1 : Rds W 2 A1 S.length (enc2 S)) (h2 : Rds W 2 A2 S.length (enc2 Q)) => by have h := Shp.AreAlike_any S A1 c1 Q A2 c2 W (by omega) (by have := HQL.out; omega) h1 (by rw [show R2 W A2 Q ↔ Rds W 2 A2 Q.length (enc2 Q) from Iff.rfl, HQL.out]; exact h2); rw [HA1.out.1, HQL.out] at h; exact h)
        have HAL2 := hide (fun (W : World) (A1 A2 : Option Addr) (c1 c2 : Nat) (h1 : Rds W 2 A1 S.length (enc2 Q)) (h2 : Rds W 2 A2 S.length (enc2 S)) => by have h := Shp.AreAlike_any Q A1 c1 S A2 c2 W (by have := HQL.out; omega) (by omega) (by rw [show R2 W A1 Q ↔ Rds W 2 A1 Q.length (enc2 Q) from Iff.rfl, HQL.out]; exact h1) h2; rw [HA1.out.2, HQL.out] at h; exact h)
        have HMI1 := hide (fun (W : World) (A1 A2 : Option Addr) (c1 c2 : Nat) (h1 : Rds W 2 A1 S.length (enc2 S)) (h2 : Rds W 2 A2 S.length (enc2 M)) => by have h := Shp.AreMirrored_any S A1 c1 M A2 c2 W (by omega) (by have := HML.out; omega) h1 (by rw [show R2 W A2 M ↔ Rds W 2 A2 M.length (enc2 M) from Iff.rfl, HML.out]; exact h2); rw [HA2.out.1, HML.out] at h; exact h)
        have HMI2 := hide (fun (W : World) (A1 A2 : Option Addr) (c1 c2 : Nat) (h1 : Rds W 2 A1 S.length (enc2 M)) (h2 : Rds W 2 A2 S.length (enc2 S)) => by have h := Shp.AreMirrored_any M A1 c1 S A2 c2 W (by have := HML.out; omega) (by omega) (by rw [show R2 W A1 M ↔ Rds W 2 A1 M.length (enc2 M) from Iff.rfl, HML.out]; exact h1) h2; rw [HA2.out.2, HML.out] at h; exact h)
        have HMQ := hide (fun (W : World) (A1 : Option Addr) (c1 : Nat) (h1 : Rds W 2 A1 S.length (enc2 Q)) => by have h := Shp.MirrorShape_any Q A1 c1 W (by have := HQL.out; omega) (by rw [show R2 W A1 Q ↔ Rds W 2 A1 Q.length (enc2 Q) from Iff.rfl, HQL.out]; exact h1); rw [mirrorV_len HNQ.out, HQL.out] at h; exact h)
        have HTQ := hide (fun (W : World) (A1 : Option Addr) (c1 : Nat) (h1 : Rds W 2 A1 S.length (enc2 (Shp.mirrorV Q))) => by have hx := (mirrorV_len HNQ.out).trans HQL.out; have h := Shp.TurnShape_any (Shp.mirrorV Q) A1 c1 W (by omega) (by rw [show R2 W A1 (Shp.mirrorV Q) ↔ Rds W 2 A1 (Shp.mirrorV Q).length (enc2 (Shp.mirrorV Q)) from Iff.rfl, hx]; exact h1); rw [HM2.out, hx, HML.out] at h; exact h)
        go_wp2_with fail
        refine (HSA.out _ At A ct c HT.out HS.out).mono ?_
        rintro e w4 ⟨rfl, hb⟩
        have HS := hide (Rds.ext HS.out hb)
        have HT := hide (Rds.ext HT.out hb)
        have HM := hide (Rds.ext HM.out hb)
        have HQ := hide (Rds.ext HQ.out hb)
        have HE := hide (HE.out.trans hb)
        clear hb
        go_wp2_with fail
        refine (HMM.out _ Am cm HM.out).mono ?_
        rintro e w5 ⟨A5, c5, rfl, ho, hb⟩
        have HS := hide (Rds.ext HS.out hb)
        have HT := hide (Rds.ext HT.out hb)
        have HM := hide (Rds.ext HM.out hb)
        have HQ := hide (Rds.ext HQ.out hb)
        have HE := hide (HE.out.trans hb)
        have HMM5 := hide (Rds.of_own ho); clear ho
        clear hb
        go_wp2_with fail
        refine (HSA.out _ A5 A c5 c HMM5.out HS.out).mono ?_
        rintro e w6 ⟨rfl, hb⟩
        have HS := hide (Rds.ext HS.out hb)
        have HT := hide (Rds.ext HT.out hb)
        have HM := hide (Rds.ext HM.out hb)
        have HQ := hide (Rds.ext HQ.out hb)
        have HMM5 := hide (Rds.ext HMM5.out hb)
        have HE := hide (HE.out.trans hb)
        clear hb
        go_wp2_with fail
        refine (HAL1.out _ A Aq c cq HS.out HQ.out).mono ?_
        rintro e w7 ⟨rfl, hb⟩
        have HS := hide (Rds.ext HS.out hb)
        have HT := hide (Rds.ext HT.out hb)
        have HM := hide (Rds.ext HM.out hb)
        have HQ := hide (Rds.ext HQ.out hb)
        have HMM5 := hide (Rds.ext HMM5.out hb)
        have HE := hide (HE.out.trans hb)
        clear hb
        go_wp2_with fail
        refine (HAL2.out _ Aq A cq c HQ.out HS.out).mono ?_
        rintro e w8 ⟨rfl, hb⟩
        have HS := hide (Rds.ext HS.out hb)
        have HT := hide (Rds.ext HT.out hb)
        have HM := hide (Rds.ext HM.out hb)
        have HQ := hide (Rds.ext HQ.out hb)
        have HMM5 := hide (Rds.ext HMM5.out hb)
        have HE := hide (HE.out.trans hb)
        clear hb
        go_wp2_with fail
        refine (HMI1.out _ A Am c cm HS.out HM.out).mono ?_
        rintro e w9 ⟨rfl, hb⟩
        have HS := hide (Rds.ext HS.out hb)
        have HT := hide (Rds.ext HT.out hb)
        have HM := hide (Rds.ext HM.out hb)
        have HQ := hide (Rds.ext HQ.out hb)
        have HMM5 := hide (Rds.ext HMM5.out hb)
        have HE := hide (HE.out.trans hb)
        clear hb
        go_wp2_with fail
        refine (HMI2.out _ Am A cm c HM.out HS.out).mono ?_
        rintro e w10 ⟨rfl, hb⟩
        have HS := hide (Rds.ext HS.out hb)
        have HT := hide (Rds.ext HT.out hb)
        have HM := hide (Rds.ext HM.out hb)
        have HQ := hide (Rds.ext HQ.out hb)
        have HMM5 := hide (Rds.ext HMM5.out hb)
        have HE := hide (HE.out.trans hb)
        clear hb
        go_wp2_with fail
        refine (HQc.out _ HS.out).mono ?_
        rintro e w11 ⟨A11, c11, rfl, ho, hb⟩
        have HS := hide (Rds.ext HS.out hb)
        have HT := hide (Rds.ext HT.out hb)
        have HM := hide (Rds.ext HM.out hb)
        have HQ := hide (Rds.ext HQ.out hb)
        have HMM5 := hide (Rds.ext HMM5.out hb)
        have HE := hide (HE.out.trans hb)
        have HQ2 := hide (Rds.of_own ho); clear ho
        clear hb
        go_wp2_with fail
        refine (HMQ.out _ A11 c11 HQ2.out).mono ?_
        rintro e w12 ⟨A12, c12, rfl, ho, hb⟩
        have HS := hide (Rds.ext HS.out hb)
        have HT := hide (Rds.ext HT.out hb)
        have HM := hide (Rds.ext HM.out hb)
        have HQ := hide (Rds.ext HQ.out hb)
        have HMM5 := hide (Rds.ext HMM5.out hb)
        have HQ2 := hide (Rds.ext HQ2.out hb)
        have HE := hide (HE.out.trans hb)
        have HQ3 := hide (Rds.of_own ho); clear ho
        clear hb
        go_wp2_with fail
        refine (HTQ.out _ A12 c12 HQ3.out).mono ?_
        rintro e w13 ⟨A13, c13, rfl, ho, hb⟩
        have HS := hide (Rds.ext HS.out hb)
        have HT := hide (Rds.ext HT.out hb)
        have HM := hide (Rds.ext HM.out hb)
        have HQ := hide (Rds.ext HQ.out hb)
        have HMM5 := hide (Rds.ext HMM5.out hb)
        have HQ2 := hide (Rds.ext HQ2.out hb)
        have HQ3 := hide (Rds.ext HQ3.out hb)
        have HE := hide (HE.out.trans hb)
        have HW2 := hide (Rds.of_own ho); clear ho
        clear hb
        clear HMc HQc HMM HMI1 HMI2 HMQ HTQ HSA HAL1 HAL2 HQ2 HQ3 HMM5 HT
        go_wp2_with fail
        go_loopw [9, 10, 11] (fun x y i wr => ∃ (k : Nat), k ≤ S.length ∧ i = .int .i64 k ∧ x = .int .i64 (sumI (fun k => crossP (gp S k) (gp S (k + 1))) k) ∧ y = .int .i64 (sumI (fun k => crossP (gp Q k) (gp Q (k + 1))) k) ∧ Hid (Ext w13 wr)) (fun _ _ i _ => S.length - (intOf i).toNat)
        case atStart => exact ⟨0, by omega, rfl, rfl, rfl, hide (Ext.refl _)⟩
        case round =>
          obtain ⟨k, hk, rfl, rfl, rfl, HE1⟩ := hrel
          have hs1 := cross_sum HDS.out.ok hpos k
          have hs2 := cross_sum (ns_ds HNQ.out) (by have := HQL.out; omega) k
          by_cases hlt : k < S.length
          · obtain ⟨j, hj⟩ : ∃ j, (k + 1) % S.length = j := ⟨_, rfl⟩
            have hjl : j < S.length := by rw [← hj]; exact Nat.mod_lt _ hpos
            have hrem : ((k : Int) + 1) % (S.length : Int) = (j : Int) := by rw [← hj]; push_cast; rfl
            have hjl2 : (j : Int) < (S.length : Int) := by omega
            have hj0 : (0 : Int) ≤ (j : Int) := by omega
            have hkl2 : (k : Int) < (S.length : Int) := by omega
            have hQk : k < Q.length := by rw [HQL.out]; exact hlt
            have hQj : j < Q.length := by rw [HQL.out]; exact hjl
            have g1 := gp_at hlt
            have g2 : gp S (k + 1) = S[j] := by rw [← gp_at hjl]; exact gp_mod (by rw [hj, Nat.mod_eq_of_lt hjl])
            have g3 := gp_at hQk
            have g4 : gp Q (k + 1) = Q[j] := by rw [← gp_at hQj]; exact gp_mod (by rw [HQL.out, hj, Nat.mod_eq_of_lt hjl])
            have HC1 := hide (show sumI (fun k => crossP (gp S k) (gp S (k + 1))) (k + 1) = sumI (fun k => crossP (gp S k) (gp S (k + 1))) k + S[k].1 * S[j].2 - S[k].2 * S[j].1 from by
              simp only [sumI]; rw [g1, g2]; unfold crossP; omega)
            have HC2 := hide (show sumI (fun k => crossP (gp Q k) (gp Q (k + 1))) (k + 1) = sumI (fun k => crossP (gp Q k) (gp Q (k + 1))) k + Q[k].1 * Q[j].2 - Q[k].2 * Q[j].1 from by
              simp only [sumI]; rw [g3, g4]; unfold crossP; omega)
            have b1 := cross_in (HDS.out.ok _ (List.getElem_mem hlt)) (HDS.out.ok _ (List.getElem_mem hjl))
            have b2 := cross_in (ns_ds HNQ.out _ (List.getElem_mem hQk)) (ns_ds HNQ.out _ (List.getElem_mem hQj))
            obtain ⟨s1, es1⟩ : ∃ s, sumI (fun k => crossP (gp S k) (gp S (k + 1))) k = s := ⟨_, rfl⟩
            obtain ⟨s2, es2⟩ : ∃ s, sumI (fun k => crossP (gp Q k) (gp Q (k + 1))) k = s := ⟨_, rfl⟩
            rw [es1] at HC1 hs1 ⊢
            rw [es2] at HC2 hs2 ⊢
            clear es1 es2 g1 g2 g3 g4 hj
            obtain ⟨bS, oS, rfl, hbS, ck0, ck1⟩ := R2.at_ (Rds.ext HS.out HE1.out) hlt
            obtain ⟨b', o', hA', _, cj0, cj1⟩ := R2.at_ (Rds.ext HS.out HE1.out) hjl
            injection hA' with hA'
            injection hA' with hA1 hA2 _
            subst hA1 hA2
            have HQ' := hide (show R2 wr Aq Q from by rw [show R2 wr Aq Q ↔ Rds wr 2 Aq Q.length (enc2 Q) from Iff.rfl, HQL.out]; exact Rds.ext HQ.out HE1.out)
            obtain ⟨bQ, oQ, rfl, hbQ, qk0, qk1⟩ := R2.at_ HQ'.out hQk
            obtain ⟨b', o', hA', _, qj0, qj1⟩ := R2.at_ HQ'.out hQj
            injection hA' with hA'
            injection hA' with hA1 hA2 _
            subst hA1 hA2
            obtain ⟨⟨x1, x2⟩, nx⟩ : ∃ r : P2, S[k] = r := ⟨_, rfl⟩
            obtain ⟨⟨y1, y2⟩, ny⟩ : ∃ r : P2, S[j] = r := ⟨_, rfl⟩
            obtain ⟨⟨u1, u2⟩, nu⟩ : ∃ r : P2, Q[k] = r := ⟨_, rfl⟩
            obtain ⟨⟨v1, v2⟩, nv⟩ : ∃ r : P2, Q[j] = r := ⟨_, rfl⟩
            rw [nx] at ck0 ck1 b1 HC1
            rw [ny] at cj0 cj1 b1 HC1
            rw [nu] at qk0 qk1 b2 HC2
            rw [nv] at qj0 qj1 b2 HC2
            dsimp only at ck0 ck1 cj0 cj1 qk0 qk1 qj0 qj1 b1 b2
            clear nx ny nu nv HQ'
            have a1 : IntKind.i64.wrap (x1 * y2) = x1 * y2 := IntWalk.i64_in _ (by omega)
            have a2 : IntKind.i64.wrap (s1 + x1 * y2) = s1 + x1 * y2 := IntWalk.i64_in _ (by omega)
            have a3 : IntKind.i64.wrap (x2 * y1) = x2 * y1 := IntWalk.i64_in _ (by omega)
            have a4 : IntKind.i64.wrap (s1 + x1 * y2 - x2 * y1) = s1 + x1 * y2 - x2 * y1 := IntWalk.i64_in _ (by omega)
            have a5 : IntKind.i64.wrap (u1 * v2) = u1 * v2 := IntWalk.i64_in _ (by omega)
            have a6 : IntKind.i64.wrap (s2 + u1 * v2) = s2 + u1 * v2 := IntWalk.i64_in _ (by omega)
            have a7 : IntKind.i64.wrap (u2 * v1) = u2 * v1 := IntWalk.i64_in _ (by omega)
            have a8 : IntKind.i64.wrap (s2 + u1 * v2 - u2 * v1) = s2 + u1 * v2 - u2 * v1 := IntWalk.i64_in _ (by omega)
            have HB := hide (And.intro b1 (And.intro b2 (And.intro hs1 hs2)))
            clear b1 b2 hs1 hs2 hjl hlt hQk hQj
            go_wp2_with fail
            go_quiet (fail)
            go_wp2_with fail
            go_quiet (fail)
            go_wp2_with fail
            go_roundw
            case rel => exact ⟨k + 1, by omega, by go_num, by rw [HC1.out], by rw [HC2.out], hide (by have := HE1.out; repeat (first | exact kE | exact Ext.refl _ | apply Ext.alloc | apply Ext.drewN | apply Ext.drew | apply Ext.set0 | apply Ext.set1 | apply Ext.set2 | apply Ext.set3 | (refine Ext.setk ?_ (by omega) _) | (apply Ext.snoc; assumption)))⟩
            case measure => simp [intOf]; omega
          · obtain rfl : k = S.length := by omega
            have HAP := hide (show 0 < sumI (fun k => crossP (gp S k) (gp S (k + 1))) S.length from HDS.out.ar)
            have HAQ := hide (show sumI (fun k => crossP (gp Q k) (gp Q (k + 1))) S.length = sumI (fun k => crossP (gp S k) (gp S (k + 1))) S.length from by
              have h := HAR.out
              unfold arS at h
              rw [HQL.out] at h
              exact h)
            obtain ⟨s1, es1⟩ : ∃ s, sumI (fun k => crossP (gp S k) (gp S (k + 1))) S.length = s := ⟨_, rfl⟩
            rw [es1] at HAP HAQ hs1 ⊢
            rw [HAQ.out]
            have hs1p := HAP.out
            clear es1 HAQ hs2
            have HM := hide (Rds.ext HM.out HE1.out)
            have HW2 := hide (Rds.ext HW2.out HE1.out)
            have HE := hide (HE.out.trans HE1.out)
            clear HS HQ HE1
            go_wp2_with fail
            refine (DrawWhole_any l A0 cc _ hm ⟨HR.out.1.ext HE.out, HR.out.2⟩).mono ?_
            rintro e w14 ⟨N, E, AN, AE, cN, cE, rfl, ⟨hwh, hn5, hn13, he8⟩, hwn, hb⟩
            have HWN := hide hwn
            have HM := hide (Rds.ext HM.out hb)
            have HW2 := hide (Rds.ext HW2.out hb)
            have HE := hide (HE.out.trans hb)
            clear hwn hb
            go_wp2_with fail
            obtain ⟨w15, hw15⟩ : ∃ w15, w15 = w14.alloc (Obj.cells #[Value.slice AN N.length cN, Value.slice AE E.length cE] 27) := ⟨_, rfl⟩
            have kz0 : w14.heap.size < w15.heap.size := by rw [hw15]; simp
            have kf0 : ∀ i, w15.frozen? ⟨w14.heap.size, i, none⟩ = false := by intro i; rw [hw15]; simp [go_sem]
            have kc0_0 : w15.cell? ⟨w14.heap.size, 0, none⟩ = some (.slice AN N.length cN) := by rw [hw15]; simp [go_sem]
            have kc0_1 : w15.cell? ⟨w14.heap.size, 1, none⟩ = some (.slice AE E.length cE) := by rw [hw15]; simp [go_sem]
            have hE3 : Ext w14 w15 := by rw [hw15]; exact (Ext.refl _).alloc _
            rw [← hw15]
            have HWR := hide ((HWN.out.ext hE3).wr (by omega) (by omega))
            have HM := hide (Rds.ext HM.out hE3)
            have HW2 := hide (Rds.ext HW2.out hE3)
            have HE := hide (HE.out.trans hE3)
            obtain ⟨bw, hbw⟩ : ∃ b, b = w14.heap.size := ⟨_, rfl⟩
            rw [← hbw] at kz0 kf0 kc0_0 kc0_1 ⊢
            clear HWN hw15 hE3 hbw
            refine (sPanesOf_any N E AN AE cN cE _ HWR.out).mono ?_
            rintro e w16 ⟨A16, c16, rfl, ho, hb⟩
            have HP16 := hide (Rds.of_own ho)
            have HWR := hide (HWR.out.ext hb)
            have HM := hide (Rds.ext HM.out hb)
            have HW2 := hide (Rds.ext HW2.out hb)
            have HE := hide (HE.out.trans hb)
            have kc0 := (hb.facts.1 bw 0 kz0).trans kc0_0
            have kc1 := (hb.facts.1 bw 1 kz0).trans kc0_1
            have kf := fun i => (hb.facts.2.1 bw i kz0).trans (kf0 i)
            have kz := hb.facts.2.2 bw kz0
            clear ho hb kz0 kf0 kc0_0 kc0_1
            have hp40 := pansN_len N E
            have HPS := hide (fun (k : Nat) (hk : k < (pansN N E).length) => pane_shape hwh (pansN_mem hk).1 (pansN_mem hk).2)
            obtain ⟨PL, hPL⟩ : ∃ P, pansN N E = P := ⟨_, rfl⟩
            rw [hPL] at HP16 hp40 HPS ⊢
            clear hPL
            by_cases h0 : PL.length = 0
            · skip
              go_wp2_with fail
              refine (HSB.out _ A13 Am c13 cm HW2.out HM.out).mono ?_
              rintro e wz ⟨rfl, hb⟩
              have HE := hide (HE.out.trans hb); clear hb
              go_wp2_with fail
              go_ret
              exact ⟨rfl, HE.out⟩
            · skip
              have h0' : 0 < PL.length := by omega
              go_wp2_with fail
              refine (at_any l A0 cc 0 _ hm (by omega) ⟨HR.out.1.ext HE.out, HR.out.2⟩).mono ?_
              rintro e wq ⟨x, rfl, hx0, hx1, rfl⟩
              obtain ⟨x, rfl⟩ := Int.eq_ofNat_of_zero_le hx0
              obtain ⟨j, hj⟩ : ∃ j, x % PL.length = j := ⟨_, rfl⟩
              have hjl : j < PL.length := by rw [← hj]; exact Nat.mod_lt _ h0'
              have hrem : (x : Int) % (PL.length : Int) = (j : Int) := by rw [← hj]; push_cast; rfl
              have hjl2 : (j : Int) < (PL.length : Int) := by omega
              have hj0 : (0 : Int) ≤ (j : Int) := by omega
              clear hj
              obtain ⟨bP, oP, rfl, hbP, hPc⟩ := HP16.out.2 h0'
              have cj := hPc j _ (encI_castZ_get hjl)
              have HPJ := hide (HPS.out j hjl)
              obtain ⟨f, hf⟩ : ∃ f : Nat, PL[j] = f := ⟨_, rfl⟩
              rw [hf] at cj HPJ
              obtain ⟨Z, hZ⟩ : ∃ Z, shapeV N E (f : Nat) = Z := ⟨_, rfl⟩
              have hZ40 : Z.length ≤ 40 := by rw [← hZ]; exact shapeV_len
              have HI := hide (fun (W : World) (h : Ext w16 W) => shI hZ (HWR.out.ext h))
              have HJ := hide (fun (W : World) (h : Ext w16 W) => shJ hZ (HWR.out.ext h))
              have HK := hide (fun (W : World) (h : Ext w16 W) => shK (n := Z.length) (by rw [← hZ]; exact HPJ.out.2.2.symm) (HWR.out.ext h))
              have HAZ := hide (show Shp.alikeB Z Z = true from by rw [← hZ]; exact alike_self HPJ.out.1)
              have HLL := hide (fun (W : World) (A1 A2 : Option Addr) (c1 c2 : Nat) (h1 : R2 W A1 Z) (h2 : R2 W A2 Z) => shL (c1 := c1) (c2 := c2) HAZ.out (by omega) h1 h2)
              clear hPc hf hZ HPJ HPS
              go_upto_region 26 with fail
              apply wp_region_RL 19 184 (by kernel_rfl) (by kernel_rfl) (by kernel_rfl) (by kernel_rfl) (by kernel_rfl) (by kernel_rfl) rfl [fun v _ => v = _, fun v _ => v = _, fun v w' => ∃ A c, v = .slice A Z.length c ∧ R2 w' A Z, fun v _ => v = _, fun v _ => v = _, fun v _ => v = _, fun v _ => ∃ A c, v = .slice A Z.length c, fun v _ => v = _, fun v _ => v = .bool false, fun v _ => v = .bool false, fun v _ => v = _, fun v _ => v = _, fun v w' => ∃ A c, v = .slice A Z.length c ∧ R2 w' A Z, fun v _ => v = _, fun v _ => v = _, fun v w' => ∃ A c, v = .slice A Z.length c ∧ R2 w' A Z, fun v _ => v = _, fun v _ => v = _, fun v _ => v = _] rfl ⟨stab_eq _, stab_eq _, (fun v W W' ⟨A, c, h1, h2⟩ hE => ⟨A, c, h1, Rds.ext h2 hE⟩), stab_eq _, stab_eq _, stab_eq _, (stab_any _), stab_eq _, (stab_eq _), (stab_eq _), stab_eq _, stab_eq _, (fun v W W' ⟨A, c, h1, h2⟩ hE => ⟨A, c, h1, Rds.ext h2 hE⟩), stab_eq _, stab_eq _, (fun v W W' ⟨A, c, h1, h2⟩ hE => ⟨A, c, h1, Rds.ext h2 hE⟩), stab_eq _, stab_eq _, stab_eq _, trivial⟩ ?Xhop ?Xfin
              case Xhop =>
                intro a w' hE hA
                have hc := hE.facts.1
                have hz := hE.facts.2.2
                refine ⟨⟨⟨⟨⟨⟨⟨⟨⟨⟨⟨⟨⟨⟨⟨⟨⟨⟨⟨trivial, ?_⟩, ?_⟩, ?_⟩, ?_⟩, ?_⟩, ?_⟩, ?_⟩, ?_⟩, ?_⟩, ?_⟩, ?_⟩, ?_⟩, ?_⟩, ?_⟩, ?_⟩, ?_⟩, ?_⟩, ?_⟩, ?_⟩
                · intro hp
                  have s13 := hA 13 (by rfl)
                  simp [sl] at s13
                  clear hp
                  have z0 := hz bw kz; have c0 := (hc bw 0 kz).trans kc0; have c1 := (hc bw 1 kz).trans kc1; have HXE := hide hE
                  refine wpOp_of_list rfl rfl ?_
                  go_wp2_with (first | (go_at_call 36; refine (HI.out _ HXE.out).mono ?_; rintro e wq ⟨Ar, cr, rfl, ho, hb⟩) | (go_at_call 38; refine (HJ.out _ HXE.out).mono ?_; rintro e wq ⟨Ar, cr, rfl, ho, hb⟩) | (go_at_call 37; refine (HK.out _ HXE.out).mono ?_; rintro e wq ⟨Ar, cr, rfl, hb⟩) | (go_at_call 33; refine (HLL.out _ _ _ _ _ hrx hry).mono ?_; rintro e wq ⟨rfl, hb⟩))
                  exact ⟨_, rfl, rfl, (by first | exact Ext.refl _ | exact hb)⟩
                · intro hp
                  have s15 := hA 15 (by rfl)
                  simp [sl] at s15
                  clear hp
                  have z0 := hz bw kz; have c0 := (hc bw 0 kz).trans kc0; have c1 := (hc bw 1 kz).trans kc1; have HXE := hide hE
                  refine wpOp_of_list rfl rfl ?_
                  go_wp2_with (first | (go_at_call 36; refine (HI.out _ HXE.out).mono ?_; rintro e wq ⟨Ar, cr, rfl, ho, hb⟩) | (go_at_call 38; refine (HJ.out _ HXE.out).mono ?_; rintro e wq ⟨Ar, cr, rfl, ho, hb⟩) | (go_at_call 37; refine (HK.out _ HXE.out).mono ?_; rintro e wq ⟨Ar, cr, rfl, hb⟩) | (go_at_call 33; refine (HLL.out _ _ _ _ _ hrx hry).mono ?_; rintro e wq ⟨rfl, hb⟩))
                  exact ⟨_, rfl, rfl, (by first | exact Ext.refl _ | exact hb)⟩
                · intro hp
                  have s153 := hp 0 (by rfl)
                  change a.tmps.getD 153 undef = _ at s153
                  simp at s153
                  have s154 := hp 1 (by rfl)
                  change a.tmps.getD 154 undef = _ at s154
                  simp at s154
                  clear hp
                  have z0 := hz bw kz; have c0 := (hc bw 0 kz).trans kc0; have c1 := (hc bw 1 kz).trans kc1; have HXE := hide hE
                  refine wpOp_of_list rfl rfl ?_
                  go_wp2_with (first | (go_at_call 36; refine (HI.out _ HXE.out).mono ?_; rintro e wq ⟨Ar, cr, rfl, ho, hb⟩) | (go_at_call 38; refine (HJ.out _ HXE.out).mono ?_; rintro e wq ⟨Ar, cr, rfl, ho, hb⟩) | (go_at_call 37; refine (HK.out _ HXE.out).mono ?_; rintro e wq ⟨Ar, cr, rfl, hb⟩) | (go_at_call 33; refine (HLL.out _ _ _ _ _ hrx hry).mono ?_; rintro e wq ⟨rfl, hb⟩))
                  exact ⟨_, rfl, ⟨_, _, rfl, Rds.of_own ho⟩, (by first | exact Ext.refl _ | exact hb)⟩
                · intro hp
                  have s155 := hp 2 (by rfl)
                  obtain ⟨AZ, cZ, s155, hrz⟩ := s155
                  change a.tmps.getD 155 undef = _ at s155
                  simp at s155
                  clear hp
                  have z0 := hz bw kz; have c0 := (hc bw 0 kz).trans kc0; have c1 := (hc bw 1 kz).trans kc1; have HXE := hide hE
                  refine wpOp_of_list rfl rfl ?_
                  go_wp2_with (first | (go_at_call 36; refine (HI.out _ HXE.out).mono ?_; rintro e wq ⟨Ar, cr, rfl, ho, hb⟩) | (go_at_call 38; refine (HJ.out _ HXE.out).mono ?_; rintro e wq ⟨Ar, cr, rfl, ho, hb⟩) | (go_at_call 37; refine (HK.out _ HXE.out).mono ?_; rintro e wq ⟨Ar, cr, rfl, hb⟩) | (go_at_call 33; refine (HLL.out _ _ _ _ _ hrx hry).mono ?_; rintro e wq ⟨rfl, hb⟩))
                  exact ⟨_, rfl, rfl, (by first | exact Ext.refl _ | exact hb)⟩
                · intro hp
                  have s13 := hA 13 (by rfl)
                  simp [sl] at s13
                  clear hp
                  have z0 := hz bw kz; have c0 := (hc bw 0 kz).trans kc0; have c1 := (hc bw 1 kz).trans kc1; have HXE := hide hE
                  refine wpOp_of_list rfl rfl ?_
                  go_wp2_with (first | (go_at_call 36; refine (HI.out _ HXE.out).mono ?_; rintro e wq ⟨Ar, cr, rfl, ho, hb⟩) | (go_at_call 38; refine (HJ.out _ HXE.out).mono ?_; rintro e wq ⟨Ar, cr, rfl, ho, hb⟩) | (go_at_call 37; refine (HK.out _ HXE.out).mono ?_; rintro e wq ⟨Ar, cr, rfl, hb⟩) | (go_at_call 33; refine (HLL.out _ _ _ _ _ hrx hry).mono ?_; rintro e wq ⟨rfl, hb⟩))
                  exact ⟨_, rfl, rfl, (by first | exact Ext.refl _ | exact hb)⟩
                · intro hp
                  have s15 := hA 15 (by rfl)
                  simp [sl] at s15
                  clear hp
                  have z0 := hz bw kz; have c0 := (hc bw 0 kz).trans kc0; have c1 := (hc bw 1 kz).trans kc1; have HXE := hide hE
                  refine wpOp_of_list rfl rfl ?_
                  go_wp2_with (first | (go_at_call 36; refine (HI.out _ HXE.out).mono ?_; rintro e wq ⟨Ar, cr, rfl, ho, hb⟩) | (go_at_call 38; refine (HJ.out _ HXE.out).mono ?_; rintro e wq ⟨Ar, cr, rfl, ho, hb⟩) | (go_at_call 37; refine (HK.out _ HXE.out).mono ?_; rintro e wq ⟨Ar, cr, rfl, hb⟩) | (go_at_call 33; refine (HLL.out _ _ _ _ _ hrx hry).mono ?_; rintro e wq ⟨rfl, hb⟩))
                  exact ⟨_, rfl, rfl, (by first | exact Ext.refl _ | exact hb)⟩
                · intro hp
                  have s157 := hp 4 (by rfl)
                  change a.tmps.getD 157 undef = _ at s157
                  simp at s157
                  have s158 := hp 5 (by rfl)
                  change a.tmps.getD 158 undef = _ at s158
                  simp at s158
                  clear hp
                  have z0 := hz bw kz; have c0 := (hc bw 0 kz).trans kc0; have c1 := (hc bw 1 kz).trans kc1; have HXE := hide hE
                  refine wpOp_of_list rfl rfl ?_
                  go_wp2_with (first | (go_at_call 36; refine (HI.out _ HXE.out).mono ?_; rintro e wq ⟨Ar, cr, rfl, ho, hb⟩) | (go_at_call 38; refine (HJ.out _ HXE.out).mono ?_; rintro e wq ⟨Ar, cr, rfl, ho, hb⟩) | (go_at_call 37; refine (HK.out _ HXE.out).mono ?_; rintro e wq ⟨Ar, cr, rfl, hb⟩) | (go_at_call 33; refine (HLL.out _ _ _ _ _ hrx hry).mono ?_; rintro e wq ⟨rfl, hb⟩))
                  exact ⟨_, rfl, ⟨_, _, rfl⟩, (by first | exact Ext.refl _ | exact hb)⟩
                · intro hp
                  have s159 := hp 6 (by rfl)
                  obtain ⟨AV, cV, s159⟩ := s159
                  change a.tmps.getD 159 undef = _ at s159
                  simp at s159
                  clear hp
                  have z0 := hz bw kz; have c0 := (hc bw 0 kz).trans kc0; have c1 := (hc bw 1 kz).trans kc1; have HXE := hide hE
                  refine wpOp_of_list rfl rfl ?_
                  go_wp2_with (first | (go_at_call 36; refine (HI.out _ HXE.out).mono ?_; rintro e wq ⟨Ar, cr, rfl, ho, hb⟩) | (go_at_call 38; refine (HJ.out _ HXE.out).mono ?_; rintro e wq ⟨Ar, cr, rfl, ho, hb⟩) | (go_at_call 37; refine (HK.out _ HXE.out).mono ?_; rintro e wq ⟨Ar, cr, rfl, hb⟩) | (go_at_call 33; refine (HLL.out _ _ _ _ _ hrx hry).mono ?_; rintro e wq ⟨rfl, hb⟩))
                  exact ⟨_, rfl, rfl, (by first | exact Ext.refl _ | exact hb)⟩
                · intro hp
                  have s156 := hp 3 (by rfl)
                  change a.tmps.getD 156 undef = _ at s156
                  simp at s156
                  have s160 := hp 7 (by rfl)
                  change a.tmps.getD 160 undef = _ at s160
                  simp at s160
                  clear hp
                  have z0 := hz bw kz; have c0 := (hc bw 0 kz).trans kc0; have c1 := (hc bw 1 kz).trans kc1; have HXE := hide hE
                  refine wpOp_of_list rfl rfl ?_
                  go_wp2_with (first | (go_at_call 36; refine (HI.out _ HXE.out).mono ?_; rintro e wq ⟨Ar, cr, rfl, ho, hb⟩) | (go_at_call 38; refine (HJ.out _ HXE.out).mono ?_; rintro e wq ⟨Ar, cr, rfl, ho, hb⟩) | (go_at_call 37; refine (HK.out _ HXE.out).mono ?_; rintro e wq ⟨Ar, cr, rfl, hb⟩) | (go_at_call 33; refine (HLL.out _ _ _ _ _ hrx hry).mono ?_; rintro e wq ⟨rfl, hb⟩))
                  exact ⟨_, rfl, rfl, (by first | exact Ext.refl _ | exact hb)⟩
                · intro hp
                  have s161 := hp 8 (by rfl)
                  obtain s161 := s161
                  change a.tmps.getD 161 undef = _ at s161
                  simp at s161
                  clear hp
                  have z0 := hz bw kz; have c0 := (hc bw 0 kz).trans kc0; have c1 := (hc bw 1 kz).trans kc1; have HXE := hide hE
                  refine wpOp_of_list rfl rfl ?_
                  go_wp2_with (first | (go_at_call 36; refine (HI.out _ HXE.out).mono ?_; rintro e wq ⟨Ar, cr, rfl, ho, hb⟩) | (go_at_call 38; refine (HJ.out _ HXE.out).mono ?_; rintro e wq ⟨Ar, cr, rfl, ho, hb⟩) | (go_at_call 37; refine (HK.out _ HXE.out).mono ?_; rintro e wq ⟨Ar, cr, rfl, hb⟩) | (go_at_call 33; refine (HLL.out _ _ _ _ _ hrx hry).mono ?_; rintro e wq ⟨rfl, hb⟩))
                  exact ⟨_, rfl, rfl, (by first | exact Ext.refl _ | exact hb)⟩
                · intro hp
                  have s13 := hA 13 (by rfl)
                  simp [sl] at s13
                  have s162 := hp 9 (by rfl)
                  obtain s162 := s162
                  change a.tmps.getD 162 undef = _ at s162
                  simp at s162
                  have sg := hp 9 (by rfl)
                  clear hp
                  have z0 := hz bw kz; have c0 := (hc bw 0 kz).trans kc0; have c1 := (hc bw 1 kz).trans kc1; have HXE := hide hE
                  refine wpOp_on rfl (wanted_yes rfl (yielded_at rfl sg) rfl) ?_
                  clear sg
                  dsimp only
                  go_wp2_with (first | (go_at_call 36; refine (HI.out _ HXE.out).mono ?_; rintro e wq ⟨Ar, cr, rfl, ho, hb⟩) | (go_at_call 38; refine (HJ.out _ HXE.out).mono ?_; rintro e wq ⟨Ar, cr, rfl, ho, hb⟩) | (go_at_call 37; refine (HK.out _ HXE.out).mono ?_; rintro e wq ⟨Ar, cr, rfl, hb⟩) | (go_at_call 33; refine (HLL.out _ _ _ _ _ hrx hry).mono ?_; rintro e wq ⟨rfl, hb⟩))
                  exact ⟨_, rfl, rfl, (by first | exact Ext.refl _ | exact hb)⟩
                · intro hp
                  have s15 := hA 15 (by rfl)
                  simp [sl] at s15
                  have s162 := hp 9 (by rfl)
                  obtain s162 := s162
                  change a.tmps.getD 162 undef = _ at s162
                  simp at s162
                  have sg := hp 9 (by rfl)
                  clear hp
                  have z0 := hz bw kz; have c0 := (hc bw 0 kz).trans kc0; have c1 := (hc bw 1 kz).trans kc1; have HXE := hide hE
                  refine wpOp_on rfl (wanted_yes rfl (yielded_at rfl sg) rfl) ?_
                  clear sg
                  dsimp only
                  go_wp2_with (first | (go_at_call 36; refine (HI.out _ HXE.out).mono ?_; rintro e wq ⟨Ar, cr, rfl, ho, hb⟩) | (go_at_call 38; refine (HJ.out _ HXE.out).mono ?_; rintro e wq ⟨Ar, cr, rfl, ho, hb⟩) | (go_at_call 37; refine (HK.out _ HXE.out).mono ?_; rintro e wq ⟨Ar, cr, rfl, hb⟩) | (go_at_call 33; refine (HLL.out _ _ _ _ _ hrx hry).mono ?_; rintro e wq ⟨rfl, hb⟩))
                  exact ⟨_, rfl, rfl, (by first | exact Ext.refl _ | exact hb)⟩
                · intro hp
                  have s162 := hp 9 (by rfl)
                  obtain s162 := s162
                  change a.tmps.getD 162 undef = _ at s162
                  simp at s162
                  have s163 := hp 10 (by rfl)
                  change a.tmps.getD 163 undef = _ at s163
                  simp at s163
                  have s164 := hp 11 (by rfl)
                  change a.tmps.getD 164 undef = _ at s164
                  simp at s164
                  have sg := hp 9 (by rfl)
                  clear hp
                  have z0 := hz bw kz; have c0 := (hc bw 0 kz).trans kc0; have c1 := (hc bw 1 kz).trans kc1; have HXE := hide hE
                  refine wpOp_on rfl (wanted_yes rfl (yielded_at rfl sg) rfl) ?_
                  clear sg
                  dsimp only
                  go_wp2_with (first | (go_at_call 36; refine (HI.out _ HXE.out).mono ?_; rintro e wq ⟨Ar, cr, rfl, ho, hb⟩) | (go_at_call 38; refine (HJ.out _ HXE.out).mono ?_; rintro e wq ⟨Ar, cr, rfl, ho, hb⟩) | (go_at_call 37; refine (HK.out _ HXE.out).mono ?_; rintro e wq ⟨Ar, cr, rfl, hb⟩) | (go_at_call 33; refine (HLL.out _ _ _ _ _ hrx hry).mono ?_; rintro e wq ⟨rfl, hb⟩))
                  exact ⟨_, rfl, ⟨_, _, rfl, Rds.of_own ho⟩, (by first | exact Ext.refl _ | exact hb)⟩
                · intro hp
                  have s13 := hA 13 (by rfl)
                  simp [sl] at s13
                  have s162 := hp 9 (by rfl)
                  obtain s162 := s162
                  change a.tmps.getD 162 undef = _ at s162
                  simp at s162
                  have sg := hp 9 (by rfl)
                  clear hp
                  have z0 := hz bw kz; have c0 := (hc bw 0 kz).trans kc0; have c1 := (hc bw 1 kz).trans kc1; have HXE := hide hE
                  refine wpOp_on rfl (wanted_yes rfl (yielded_at rfl sg) rfl) ?_
                  clear sg
                  dsimp only
                  go_wp2_with (first | (go_at_call 36; refine (HI.out _ HXE.out).mono ?_; rintro e wq ⟨Ar, cr, rfl, ho, hb⟩) | (go_at_call 38; refine (HJ.out _ HXE.out).mono ?_; rintro e wq ⟨Ar, cr, rfl, ho, hb⟩) | (go_at_call 37; refine (HK.out _ HXE.out).mono ?_; rintro e wq ⟨Ar, cr, rfl, hb⟩) | (go_at_call 33; refine (HLL.out _ _ _ _ _ hrx hry).mono ?_; rintro e wq ⟨rfl, hb⟩))
                  exact ⟨_, rfl, rfl, (by first | exact Ext.refl _ | exact hb)⟩
                · intro hp
                  have s15 := hA 15 (by rfl)
                  simp [sl] at s15
                  have s162 := hp 9 (by rfl)
                  obtain s162 := s162
                  change a.tmps.getD 162 undef = _ at s162
                  simp at s162
                  have sg := hp 9 (by rfl)
                  clear hp
                  have z0 := hz bw kz; have c0 := (hc bw 0 kz).trans kc0; have c1 := (hc bw 1 kz).trans kc1; have HXE := hide hE
                  refine wpOp_on rfl (wanted_yes rfl (yielded_at rfl sg) rfl) ?_
                  clear sg
                  dsimp only
                  go_wp2_with (first | (go_at_call 36; refine (HI.out _ HXE.out).mono ?_; rintro e wq ⟨Ar, cr, rfl, ho, hb⟩) | (go_at_call 38; refine (HJ.out _ HXE.out).mono ?_; rintro e wq ⟨Ar, cr, rfl, ho, hb⟩) | (go_at_call 37; refine (HK.out _ HXE.out).mono ?_; rintro e wq ⟨Ar, cr, rfl, hb⟩) | (go_at_call 33; refine (HLL.out _ _ _ _ _ hrx hry).mono ?_; rintro e wq ⟨rfl, hb⟩))
                  exact ⟨_, rfl, rfl, (by first | exact Ext.refl _ | exact hb)⟩
                · intro hp
                  have s162 := hp 9 (by rfl)
                  obtain s162 := s162
                  change a.tmps.getD 162 undef = _ at s162
                  simp at s162
                  have s166 := hp 13 (by rfl)
                  change a.tmps.getD 166 undef = _ at s166
                  simp at s166
                  have s167 := hp 14 (by rfl)
                  change a.tmps.getD 167 undef = _ at s167
                  simp at s167
                  have sg := hp 9 (by rfl)
                  clear hp
                  have z0 := hz bw kz; have c0 := (hc bw 0 kz).trans kc0; have c1 := (hc bw 1 kz).trans kc1; have HXE := hide hE
                  refine wpOp_on rfl (wanted_yes rfl (yielded_at rfl sg) rfl) ?_
                  clear sg
                  dsimp only
                  go_wp2_with (first | (go_at_call 36; refine (HI.out _ HXE.out).mono ?_; rintro e wq ⟨Ar, cr, rfl, ho, hb⟩) | (go_at_call 38; refine (HJ.out _ HXE.out).mono ?_; rintro e wq ⟨Ar, cr, rfl, ho, hb⟩) | (go_at_call 37; refine (HK.out _ HXE.out).mono ?_; rintro e wq ⟨Ar, cr, rfl, hb⟩) | (go_at_call 33; refine (HLL.out _ _ _ _ _ hrx hry).mono ?_; rintro e wq ⟨rfl, hb⟩))
                  exact ⟨_, rfl, ⟨_, _, rfl, Rds.of_own ho⟩, (by first | exact Ext.refl _ | exact hb)⟩
                · intro hp
                  have s162 := hp 9 (by rfl)
                  obtain s162 := s162
                  change a.tmps.getD 162 undef = _ at s162
                  simp at s162
                  have s165 := hp 12 (by rfl)
                  obtain ⟨AX, cX, s165, hrx⟩ := s165
                  change a.tmps.getD 165 undef = _ at s165
                  simp at s165
                  have s168 := hp 15 (by rfl)
                  obtain ⟨AY, cY, s168, hry⟩ := s168
                  change a.tmps.getD 168 undef = _ at s168
                  simp at s168
                  have sg := hp 9 (by rfl)
                  clear hp
                  have z0 := hz bw kz; have c0 := (hc bw 0 kz).trans kc0; have c1 := (hc bw 1 kz).trans kc1; have HXE := hide hE
                  refine wpOp_on rfl (wanted_yes rfl (yielded_at rfl sg) rfl) ?_
                  clear sg
                  dsimp only
                  go_wp2_with (first | (go_at_call 36; refine (HI.out _ HXE.out).mono ?_; rintro e wq ⟨Ar, cr, rfl, ho, hb⟩) | (go_at_call 38; refine (HJ.out _ HXE.out).mono ?_; rintro e wq ⟨Ar, cr, rfl, ho, hb⟩) | (go_at_call 37; refine (HK.out _ HXE.out).mono ?_; rintro e wq ⟨Ar, cr, rfl, hb⟩) | (go_at_call 33; refine (HLL.out _ _ _ _ _ hrx hry).mono ?_; rintro e wq ⟨rfl, hb⟩))
                  exact ⟨_, rfl, rfl, (by first | exact Ext.refl _ | exact hb)⟩
                · intro hp
                  have s162 := hp 9 (by rfl)
                  obtain s162 := s162
                  change a.tmps.getD 162 undef = _ at s162
                  simp at s162
                  have s169 := hp 16 (by rfl)
                  change a.tmps.getD 169 undef = _ at s169
                  simp at s169
                  have sg := hp 9 (by rfl)
                  clear hp
                  have z0 := hz bw kz; have c0 := (hc bw 0 kz).trans kc0; have c1 := (hc bw 1 kz).trans kc1; have HXE := hide hE
                  refine wpOp_on rfl (wanted_yes rfl (yielded_at rfl sg) rfl) ?_
                  clear sg
                  dsimp only
                  go_wp2_with (first | (go_at_call 36; refine (HI.out _ HXE.out).mono ?_; rintro e wq ⟨Ar, cr, rfl, ho, hb⟩) | (go_at_call 38; refine (HJ.out _ HXE.out).mono ?_; rintro e wq ⟨Ar, cr, rfl, ho, hb⟩) | (go_at_call 37; refine (HK.out _ HXE.out).mono ?_; rintro e wq ⟨Ar, cr, rfl, hb⟩) | (go_at_call 33; refine (HLL.out _ _ _ _ _ hrx hry).mono ?_; rintro e wq ⟨rfl, hb⟩))
                  exact ⟨_, rfl, rfl, (by first | exact Ext.refl _ | exact hb)⟩
                · intro hp
                  have s162 := hp 9 (by rfl)
                  obtain s162 := s162
                  change a.tmps.getD 162 undef = _ at s162
                  simp at s162
                  have s170 := hp 17 (by rfl)
                  change a.tmps.getD 170 undef = _ at s170
                  simp at s170
                  clear hp
                  have z0 := hz bw kz; have c0 := (hc bw 0 kz).trans kc0; have c1 := (hc bw 1 kz).trans kc1; have HXE := hide hE
                  refine wpOp_of_list rfl rfl ?_
                  go_wp2_with (first | (go_at_call 36; refine (HI.out _ HXE.out).mono ?_; rintro e wq ⟨Ar, cr, rfl, ho, hb⟩) | (go_at_call 38; refine (HJ.out _ HXE.out).mono ?_; rintro e wq ⟨Ar, cr, rfl, ho, hb⟩) | (go_at_call 37; refine (HK.out _ HXE.out).mono ?_; rintro e wq ⟨Ar, cr, rfl, hb⟩) | (go_at_call 33; refine (HLL.out _ _ _ _ _ hrx hry).mono ?_; rintro e wq ⟨rfl, hb⟩))
                  exact ⟨_, rfl, rfl, (by first | exact Ext.refl _ | exact hb)⟩
              case Xfin =>
                intro X w' hE hp
                obtain ⟨⟨⟨⟨⟨⟨⟨⟨⟨⟨⟨⟨⟨⟨⟨⟨⟨⟨⟨_, h0⟩, h1⟩, h2⟩, h3⟩, h4⟩, h5⟩, h6⟩, h7⟩, h8⟩, h9⟩, h10⟩, h11⟩, h12⟩, h13⟩, h14⟩, h15⟩, h16⟩, h17⟩, h18⟩ := hp
                change X 0 = _ at h0
                change X 1 = _ at h1
                obtain ⟨AZ, cZ, h2, hrz⟩ := h2
                change X 2 = _ at h2
                change X 3 = _ at h3
                change X 4 = _ at h4
                change X 5 = _ at h5
                obtain ⟨AV, cV, h6⟩ := h6
                change X 6 = _ at h6
                change X 7 = _ at h7
                obtain h8 := h8
                change X 8 = _ at h8
                obtain h9 := h9
                change X 9 = _ at h9
                change X 10 = _ at h10
                change X 11 = _ at h11
                obtain ⟨AX, cX, h12, hrx⟩ := h12
                change X 12 = _ at h12
                change X 13 = _ at h13
                change X 14 = _ at h14
                obtain ⟨AY, cY, h15, hry⟩ := h15
                change X 15 = _ at h15
                change X 16 = _ at h16
                change X 17 = _ at h17
                change X 18 = _ at h18
                simp only [List.drop_succ_cons, List.drop_nil]
                refine wpList_nil ?_
                go_simp
                have HM := hide (Rds.ext HM.out hE)
                have HW2 := hide (Rds.ext HW2.out hE)
                have HE := hide (HE.out.trans hE)
                clear hE
                go_wp2_with fail
                refine (HSB.out _ A13 Am c13 cm HW2.out HM.out).mono ?_
                rintro e wz ⟨rfl, hb⟩
                have HE := hide (HE.out.trans hb); clear hb
                go_wp2_with fail
                go_ret
                exact ⟨rfl, HE.out⟩
end Go.Proofs.Ytabgcpoaepafjaa
