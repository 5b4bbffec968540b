/- The walk of the law on flaws. Condition: the bytes lie in memory. -/
import Derived.Test.YtgaeafjmofbkbaaDrawF
import Derived.Test.YtgaeafjmofbkbaaDrawA
import Derived.Test.YtgaeafjmofbkbaaRegR
import Derived.Test.YtgaeafjmofbkbaaFlawU
import Derived.BigQuiet
set_option linter.unusedSimpArgs false
set_option linter.unusedVariables false
namespace Go.Proofs.Ytgaeafjmofbkbaa
open Go.RowKit

theorem atx_any (l : List Int) (A : Option Addr) (c : Nat) (i : Int) (w : World) (h0 : 0 ≤ i) (h10 : i ≤ 10) (hl : l.length ≤ 1048576) (hr : RB w A l) : Calls Try.prog 6 #[.slice A l.length c, .int .i64 i] w fun e w' => ∃ x, e = .returned (.int .i64 x) ∧ w = w' := by
  obtain ⟨n, rfl⟩ := Int.eq_ofNat_of_zero_le h0
  refine (at_any l A c n w hl (by omega) hr).mono ?_
  rintro e w' ⟨x, rfl, _, _, rfl⟩
  exact ⟨x, rfl, rfl⟩
theorem DrawFlawed_any (l : List Int) (A : Option Addr) (c : Nat) (w : World) (hl : l.length ≤ 1048576) (hr : RB w A l) :
    Calls Try.prog 5 #[.slice A l.length c] w fun e w' => ∃ (W H : Int) (L : List P2) (A : Option Addr) (c : Nat), e = .returned (.agg #[.int .i64 W, .int .i64 H, .slice A L.length c]) ∧ FlawIn W H L ∧ w'.ownsRow w.heap.size 32 2 (.slice A L.length c) L.length (enc2 L) ∧ Ext w w' := by
  have HR := hide hr
  clear hr
  go_enter Try.func5, Try.ntmps5
  go_wp2_with fail
  obtain ⟨w0, hw⟩ : ∃ w0, w0 = w.alloc (Obj.cells #[Value.int IntKind.i64 0, Value.int IntKind.i64 0, Value.slice none 0 0] 28) := ⟨_, rfl⟩
  rw [← hw]
  have HB := hide (show Blk w0 w.heap.size 28 [.int .i64 0, .int .i64 0, .slice none 0 0] by rw [hw]; exact Blk.new w _ _)
  have kE := hide (show Ext w w0 by rw [hw]; exact (Ext.refl _).alloc _)
  have hw0 : w.heap.size < w0.heap.size := HB.out.lt
  clear hw
  refine (l01New_any l A c _ hl (HR.out.ext kE.out)).mono ?_; rintro e w1 ⟨g, rfl, hg, hc, hE⟩
  have HC := hide hc
  have HE := hide hE
  have hs1 := hE.size
  clear hc hE
  go_wp2_with fail
  refine (l21Flawed_any g l w0 w1 hl HC.out HE.out hg).mono ?_; rintro e w2 ⟨W, H, L, Ax, cx, rfl, hF, hown, hE2⟩
  have HB := hide (HB.out.ext hE2)
  have kE := hide (kE.out.trans hE2)
  have HO := hide hown
  have c0 : w2.cell? ⟨w.heap.size, 0, none⟩ = some (.int .i64 0) := (HB.out.cell 0).trans rfl
  have c1 : w2.cell? ⟨w.heap.size, 1, none⟩ = some (.int .i64 0) := (HB.out.cell 1).trans rfl
  have c2 : w2.cell? ⟨w.heap.size, 2, none⟩ = some (.slice none 0 0) := (HB.out.cell 2).trans rfl
  have f0 := HB.out.free
  have z0 := HB.out.lt
  have hlt : w.heap.size < w1.heap.size := by omega
  have hOf := hide (own_mono (own_put (own_put (own_put HO.out hlt 0 (.int .i64 W)) hlt 1 (.int .i64 H)) hlt 2 (.slice Ax L.length cx)) (Nat.le_of_lt hlt))
  have hEf := hide (Ext.setk (Ext.setk (Ext.setk kE.out (Nat.le_refl w.heap.size) (o := 0) (s := none) (.int .i64 W)) (Nat.le_refl w.heap.size) (o := 1) (s := none) (.int .i64 H)) (Nat.le_refl w.heap.size) (o := 2) (s := none) (.slice Ax L.length cx))
  clear hown hE2
  go_wp2_with fail
  refine bodyPost_ret (v := .agg #[.int .i64 W, .int .i64 H, .slice Ax L.length cx]) (by simp only [results, Try.results5]; go_simp) rfl ⟨W, H, L, Ax, cx, rfl, hF, hOf.out, hEf.out⟩
set_option maxRecDepth 100000 in
set_option maxHeartbeats 16000000 in
theorem FnFlaws_walk (l : List Int) (A : Option Addr) (cc : Nat) (w : World) (hl : l.length ≤ maxLen) (hr : RB w A l) :
    Calls Try.prog 3 #[.slice A l.length cc] w fun e w' => e = .returned (.bool true) ∧ Ext w w' := by
  by_cases hb : (1048576 : Int) < l.length
  · go_enter Try.func3, Try.ntmps3
    go_wp2_with fail
    refine (big_any l A cc _ hl).mono ?_; rintro e w1 ⟨rfl, rfl⟩
    rw [decide_eq_true (by omega)]
    go_wp2_with fail
    go_ret
    exact ⟨rfl, by repeat (first | exact kE | exact Ext.refl _ | apply Ext.alloc | apply Ext.drewN | apply Ext.drew | apply Ext.set0 | apply Ext.set1 | apply Ext.set2 | apply Ext.set3 | (refine Ext.setk ?_ (by omega) _) | (apply Ext.snoc; assumption))⟩
  · have HR := hide hr
    clear hr
    have hm : l.length ≤ 1048576 := by omega
    go_enter Try.func3, Try.ntmps3
    go_wp2_with fail
    refine (big_any l A cc _ hl).mono ?_; rintro e w1 ⟨rfl, rfl⟩
    rw [decide_eq_false (by omega)]
    go_wp2_with fail
    refine (DrawFlawed_any l A cc _ hm HR.out).mono ?_; rintro e v1 ⟨W, H, L, Ax, cx, rfl, hF, ho, hE⟩
    have HF := hide hF
    have HO := hide ho
    have HL := hide (show R2 v1 Ax L from Rds.of_own ho)
    have hcx : L.length ≤ cx := by obtain ⟨_, _, e, h, _⟩ := own_slice ho; injection e with _ _ e; omega
    have hnil := own_nils ho
    have kE := hide hE
    have bW := hF.w
    have bH := hF.h
    have bn := hF.n
    have hL10 : L.length ≤ 1048576 := by omega
    clear ho hE hF
    go_wp2_with fail
    obtain ⟨bX, hbw⟩ : ∃ q, q = v1.heap.size := ⟨_, rfl⟩
    obtain ⟨w2, hw⟩ : ∃ q, q = v1.alloc (Obj.cells #[.int .i64 W, .int .i64 H, .slice Ax L.length cx] 28) := ⟨_, rfl⟩
    have HX := hide (show Blk w2 bX 28 [.int .i64 W, .int .i64 H, .slice Ax L.length cx] by rw [hw, hbw]; exact Blk.new _ _ _)
    have HL := hide (show Rds w2 _ _ _ _ by rw [hw]; exact HL.out.ext ((Ext.refl _).alloc _))
    have kE := hide (show Ext _ w2 by rw [hw]; exact kE.out.alloc _)
    rw [← hw]
    (try rw [← hbw])
    clear hw hbw
    refine (at_any l A cc 0 _ hm (by omega) (HR.out.ext kE.out)).mono ?_; rintro e w' ⟨q0, rfl, hq0, hq0', rfl⟩
    have m0 : 0 ≤ q0 % 4 := Int.emod_nonneg _ (by omega)
    have m0' : q0 % 4 < 4 := Int.emod_lt_of_pos _ (by omega)
    go_wp2_with fail
    refine (at_any l A cc 1 _ hm (by omega) (HR.out.ext kE.out)).mono ?_; rintro e w' ⟨q1, rfl, hq1, hq1', rfl⟩
    have m1 : 0 ≤ q1 % 4 := Int.emod_nonneg _ (by omega)
    have m1' : q1 % 4 < 4 := Int.emod_lt_of_pos _ (by omega)
    have zX : bX < w2.heap.size := HX.out.lt
    have fX := HX.out.free
    have cX0 : w2.cell? ⟨bX, 0, none⟩ = some (.int .i64 W) := (HX.out.cell 0).trans rfl
    have cX1 : w2.cell? ⟨bX, 1, none⟩ = some (.int .i64 H) := (HX.out.cell 1).trans rfl
    have cX2 : w2.cell? ⟨bX, 2, none⟩ = some (.slice Ax L.length cx) := (HX.out.cell 2).trans rfl
    go_wp2_with fail
    obtain ⟨p0, hp0⟩ : ∃ u, u = 1 + q0 % 4 := ⟨_, rfl⟩
    obtain ⟨p1, hp1⟩ : ∃ u, u = 1 + q1 % 4 := ⟨_, rfl⟩
    rw [← hp0, ← hp1]
    have hp : 1 ≤ p0 ∧ p0 ≤ 4 ∧ 1 ≤ p1 ∧ p1 ≤ 4 := by omega
    clear hp0 hp1 m0 m0' m1 m1' hq0 hq0' hq1 hq1'
    clear zX fX cX0 cX1 cX2
    obtain ⟨bP, hbw⟩ : ∃ q, q = w2.heap.size := ⟨_, rfl⟩
    obtain ⟨w3, hw⟩ : ∃ q, q = w2.alloc (Obj.cells #[.int .i64 p0, .int .i64 p1] 25) := ⟨_, rfl⟩
    have HX := hide (show Blk w3 _ _ _ by rw [hw]; exact HX.out.ext ((Ext.refl _).alloc _))
    have HP := hide (show Blk w3 bP 25 [.int .i64 p0, .int .i64 p1] by rw [hw, hbw]; exact Blk.new _ _ _)
    have HL := hide (show Rds w3 _ _ _ _ by rw [hw]; exact HL.out.ext ((Ext.refl _).alloc _))
    have kE := hide (show Ext _ w3 by rw [hw]; exact kE.out.alloc _)
    rw [← hw]
    (try rw [← hbw])
    clear hw hbw
    obtain ⟨fa, fb, ok, hv⟩ := FC.ex W H L (p0, p1)
    have HV := hide hv
    clear hv
    refine (FirstClear_any W H L Ax cx p0 p1 fa fb ok _ hL10 HL.out HV.out).mono ?_; rintro e w4 ⟨rfl, hb⟩
    have HX := hide (HX.out.ext hb)
    have HP := hide (HP.out.ext hb)
    have HL := hide (HL.out.ext hb)
    have kE := hide (kE.out.trans hb)
    clear hb
    cases ok
    · skip
      have zX : bX < w4.heap.size := HX.out.lt
      have fX := HX.out.free
      have cX0 : w4.cell? ⟨bX, 0, none⟩ = some (.int .i64 W) := (HX.out.cell 0).trans rfl
      have cX1 : w4.cell? ⟨bX, 1, none⟩ = some (.int .i64 H) := (HX.out.cell 1).trans rfl
      have cX2 : w4.cell? ⟨bX, 2, none⟩ = some (.slice Ax L.length cx) := (HX.out.cell 2).trans rfl
      have zP : bP < w4.heap.size := HP.out.lt
      have fP := HP.out.free
      have cP0 : w4.cell? ⟨bP, 0, none⟩ = some (.int .i64 p0) := (HP.out.cell 0).trans rfl
      have cP1 : w4.cell? ⟨bP, 1, none⟩ = some (.int .i64 p1) := (HP.out.cell 1).trans rfl
      go_wp2_with fail
      clear zX fX cX0 cX1 cX2 zP fP cP0 cP1
      obtain ⟨bN, hbw⟩ : ∃ q, q = w4.heap.size := ⟨_, rfl⟩
      obtain ⟨w5, hw⟩ : ∃ q, q = w4.alloc (Obj.cells #[.int .i64 fa, .int .i64 fb] 32) := ⟨_, rfl⟩
      have HX := hide (show Blk w5 _ _ _ by rw [hw]; exact HX.out.ext ((Ext.refl _).alloc _))
      have HP := hide (show Blk w5 _ _ _ by rw [hw]; exact HP.out.ext ((Ext.refl _).alloc _))
      have HN := hide (show Blk w5 bN 32 [.int .i64 fa, .int .i64 fb] by rw [hw, hbw]; exact Blk.new _ _ _)
      have HL := hide (show Rds w5 _ _ _ _ by rw [hw]; exact HL.out.ext ((Ext.refl _).alloc _))
      have kE := hide (show Ext _ w5 by rw [hw]; exact kE.out.alloc _)
      rw [← hw]
      (try rw [← hbw])
      clear hw hbw
      have kO := hide (Ext.refl w5)
      go_loopw [7] (fun i wr => ∃ v : Nat, v ≤ 10 ∧ i = .int .i64 v ∧ Ext w5 wr) (fun i _ => 20 - (intOf i).toNat)
      case atStart => exact ⟨0, by omega, rfl, Ext.refl _⟩
      case round =>
        obtain ⟨v, hv10, rfl, hEr⟩ := hrel
        have HX := hide (HX.out.ext hEr)
        have HP := hide (HP.out.ext hEr)
        have HN := hide (HN.out.ext hEr)
        have HL := hide (HL.out.ext hEr)
        have kE := hide (kE.out.trans hEr)
        have kO := hide (kO.out.trans hEr)
        clear hEr
        have zX : bX < wr.heap.size := HX.out.lt
        have fX := HX.out.free
        have cX0 : wr.cell? ⟨bX, 0, none⟩ = some (.int .i64 W) := (HX.out.cell 0).trans rfl
        have cX1 : wr.cell? ⟨bX, 1, none⟩ = some (.int .i64 H) := (HX.out.cell 1).trans rfl
        have cX2 : wr.cell? ⟨bX, 2, none⟩ = some (.slice Ax L.length cx) := (HX.out.cell 2).trans rfl
        have zP : bP < wr.heap.size := HP.out.lt
        have fP := HP.out.free
        have cP0 : wr.cell? ⟨bP, 0, none⟩ = some (.int .i64 p0) := (HP.out.cell 0).trans rfl
        have cP1 : wr.cell? ⟨bP, 1, none⟩ = some (.int .i64 p1) := (HP.out.cell 1).trans rfl
        have zN : bN < wr.heap.size := HN.out.lt
        have fN := HN.out.free
        have cN0 : wr.cell? ⟨bN, 0, none⟩ = some (.int .i64 fa) := (HN.out.cell 0).trans rfl
        have cN1 : wr.cell? ⟨bN, 1, none⟩ = some (.int .i64 fb) := (HN.out.cell 1).trans rfl
        by_cases hvv : (v : Int) ≤ H - p1
        · skip
          go_wp2_with fail
          clear zX fX cX0 cX1 cX2 zP fP cP0 cP1 zN fN cN0 cN1
          obtain ⟨wb, hwb⟩ : ∃ q, q = wr := ⟨_, rfl⟩
          subst hwb
          have kI := hide (Ext.refl wb)
          go_loopw [8] (fun i wi => ∃ u : Nat, u ≤ 10 ∧ i = .int .i64 u ∧ Ext wb wi) (fun i _ => 20 - (intOf i).toNat)
          case atStart => exact ⟨0, by omega, rfl, Ext.refl _⟩
          case round =>
            obtain ⟨u, hu10, rfl, hEi⟩ := hrel
            have HX := hide (HX.out.ext hEi)
            have HP := hide (HP.out.ext hEi)
            have HN := hide (HN.out.ext hEi)
            have HL := hide (HL.out.ext hEi)
            have kE := hide (kE.out.trans hEi)
            have kO := hide (kO.out.trans hEi)
            have kI := hide (kI.out.trans hEi)
            clear hEi
            by_cases huu : (u : Int) ≤ W - p0
            · skip
              have K := before_law HF.out hp HV.out (u := u) (t := v) (by omega) (by omega) (.inl rfl)
              have zX : bX < wr.heap.size := HX.out.lt
              have fX := HX.out.free
              have cX0 : wr.cell? ⟨bX, 0, none⟩ = some (.int .i64 W) := (HX.out.cell 0).trans rfl
              have cX1 : wr.cell? ⟨bX, 1, none⟩ = some (.int .i64 H) := (HX.out.cell 1).trans rfl
              have cX2 : wr.cell? ⟨bX, 2, none⟩ = some (.slice Ax L.length cx) := (HX.out.cell 2).trans rfl
              have zP : bP < wr.heap.size := HP.out.lt
              have fP := HP.out.free
              have cP0 : wr.cell? ⟨bP, 0, none⟩ = some (.int .i64 p0) := (HP.out.cell 0).trans rfl
              have cP1 : wr.cell? ⟨bP, 1, none⟩ = some (.int .i64 p1) := (HP.out.cell 1).trans rfl
              have zN : bN < wr.heap.size := HN.out.lt
              have fN := HN.out.free
              have cN0 : wr.cell? ⟨bN, 0, none⟩ = some (.int .i64 fa) := (HN.out.cell 0).trans rfl
              have cN1 : wr.cell? ⟨bN, 1, none⟩ = some (.int .i64 fb) := (HN.out.cell 1).trans rfl
              go_wp2_with fail
              clear zX fX cX0 cX1 cX2 zP fP cP0 cP1 zN fN cN0 cN1
              obtain ⟨bA, hbw⟩ : ∃ q, q = wr.heap.size := ⟨_, rfl⟩
              obtain ⟨wa, hw⟩ : ∃ q, q = wr.alloc (Obj.cells #[.int .i64 (u : Int), .int .i64 (v : Int)] 32) := ⟨_, rfl⟩
              have HX := hide (show Blk wa _ _ _ by rw [hw]; exact HX.out.ext ((Ext.refl _).alloc _))
              have HP := hide (show Blk wa _ _ _ by rw [hw]; exact HP.out.ext ((Ext.refl _).alloc _))
              have HN := hide (show Blk wa _ _ _ by rw [hw]; exact HN.out.ext ((Ext.refl _).alloc _))
              have HA := hide (show Blk wa bA 32 [.int .i64 (u : Int), .int .i64 (v : Int)] by rw [hw, hbw]; exact Blk.new _ _ _)
              have HL := hide (show Rds wa _ _ _ _ by rw [hw]; exact HL.out.ext ((Ext.refl _).alloc _))
              have kE := hide (show Ext _ wa by rw [hw]; exact kE.out.alloc _)
              have kO := hide (show Ext _ wa by rw [hw]; exact kO.out.alloc _)
              have kI := hide (show Ext _ wa by rw [hw]; exact kI.out.alloc _)
              rw [← hw]
              (try rw [← hbw])
              clear hw hbw
              refine (IsClear_any W H L Ax cx u v p0 p1 _ hL10 HL.out).mono ?_; rintro e wc ⟨rfl, hb⟩
              have HX := hide (HX.out.ext hb)
              have HP := hide (HP.out.ext hb)
              have HN := hide (HN.out.ext hb)
              have HA := hide (HA.out.ext hb)
              have HL := hide (HL.out.ext hb)
              have kE := hide (kE.out.trans hb)
              have kO := hide (kO.out.trans hb)
              have kI := hide (kI.out.trans hb)
              clear hb
              rw [K.1]
              have zX : bX < wc.heap.size := HX.out.lt
              have fX := HX.out.free
              have cX0 : wc.cell? ⟨bX, 0, none⟩ = some (.int .i64 W) := (HX.out.cell 0).trans rfl
              have cX1 : wc.cell? ⟨bX, 1, none⟩ = some (.int .i64 H) := (HX.out.cell 1).trans rfl
              have cX2 : wc.cell? ⟨bX, 2, none⟩ = some (.slice Ax L.length cx) := (HX.out.cell 2).trans rfl
              have zP : bP < wc.heap.size := HP.out.lt
              have fP := HP.out.free
              have cP0 : wc.cell? ⟨bP, 0, none⟩ = some (.int .i64 p0) := (HP.out.cell 0).trans rfl
              have cP1 : wc.cell? ⟨bP, 1, none⟩ = some (.int .i64 p1) := (HP.out.cell 1).trans rfl
              have zN : bN < wc.heap.size := HN.out.lt
              have fN := HN.out.free
              have cN0 : wc.cell? ⟨bN, 0, none⟩ = some (.int .i64 fa) := (HN.out.cell 0).trans rfl
              have cN1 : wc.cell? ⟨bN, 1, none⟩ = some (.int .i64 fb) := (HN.out.cell 1).trans rfl
              have zA : bA < wc.heap.size := HA.out.lt
              have fA := HA.out.free
              have cA0 : wc.cell? ⟨bA, 0, none⟩ = some (.int .i64 (u : Int)) := (HA.out.cell 0).trans rfl
              have cA1 : wc.cell? ⟨bA, 1, none⟩ = some (.int .i64 (v : Int)) := (HA.out.cell 1).trans rfl
              go_wp2_with fail
              clear zX fX cX0 cX1 cX2 zP fP cP0 cP1 zN fN cN0 cN1 zA fA cA0 cA1
              refine (CountSpots_any W H L Ax cx u v p0 p1 _ hL10 hcx HL.out).mono ?_; rintro e wd ⟨rfl, hb⟩
              have HX := hide (HX.out.ext hb)
              have HP := hide (HP.out.ext hb)
              have HN := hide (HN.out.ext hb)
              have HA := hide (HA.out.ext hb)
              have HL := hide (HL.out.ext hb)
              have kE := hide (kE.out.trans hb)
              have kO := hide (kO.out.trans hb)
              have kI := hide (kI.out.trans hb)
              clear hb
              obtain ⟨sp, hsp⟩ : ∃ q, spots W H L ((u : Int), (v : Int)) (p0, p1) = q := ⟨_, rfl⟩
              have K2 := K.2
              rw [hsp] at K2 ⊢
              have k3 : (sp == 0) = false := by simpa using K2
              have k4 : decide (sp = 0) = false := decide_eq_false K2
              clear K hsp
              have zX : bX < wd.heap.size := HX.out.lt
              have fX := HX.out.free
              have cX0 : wd.cell? ⟨bX, 0, none⟩ = some (.int .i64 W) := (HX.out.cell 0).trans rfl
              have cX1 : wd.cell? ⟨bX, 1, none⟩ = some (.int .i64 H) := (HX.out.cell 1).trans rfl
              have cX2 : wd.cell? ⟨bX, 2, none⟩ = some (.slice Ax L.length cx) := (HX.out.cell 2).trans rfl
              have zP : bP < wd.heap.size := HP.out.lt
              have fP := HP.out.free
              have cP0 : wd.cell? ⟨bP, 0, none⟩ = some (.int .i64 p0) := (HP.out.cell 0).trans rfl
              have cP1 : wd.cell? ⟨bP, 1, none⟩ = some (.int .i64 p1) := (HP.out.cell 1).trans rfl
              have zN : bN < wd.heap.size := HN.out.lt
              have fN := HN.out.free
              have cN0 : wd.cell? ⟨bN, 0, none⟩ = some (.int .i64 fa) := (HN.out.cell 0).trans rfl
              have cN1 : wd.cell? ⟨bN, 1, none⟩ = some (.int .i64 fb) := (HN.out.cell 1).trans rfl
              have zA : bA < wd.heap.size := HA.out.lt
              have fA := HA.out.free
              have cA0 : wd.cell? ⟨bA, 0, none⟩ = some (.int .i64 (u : Int)) := (HA.out.cell 0).trans rfl
              have cA1 : wd.cell? ⟨bA, 1, none⟩ = some (.int .i64 (v : Int)) := (HA.out.cell 1).trans rfl
              go_wp2_with fail
              clear zX fX cX0 cX1 cX2 zP fP cP0 cP1 zN fN cN0 cN1 zA fA cA0 cA1
              go_roundw
              case rel => exact ⟨u + 1, by omega, by go_num, kI.out⟩
              case measure => simp [intOf]; omega
            · skip
              have zX : bX < wr.heap.size := HX.out.lt
              have fX := HX.out.free
              have cX0 : wr.cell? ⟨bX, 0, none⟩ = some (.int .i64 W) := (HX.out.cell 0).trans rfl
              have cX1 : wr.cell? ⟨bX, 1, none⟩ = some (.int .i64 H) := (HX.out.cell 1).trans rfl
              have cX2 : wr.cell? ⟨bX, 2, none⟩ = some (.slice Ax L.length cx) := (HX.out.cell 2).trans rfl
              have zP : bP < wr.heap.size := HP.out.lt
              have fP := HP.out.free
              have cP0 : wr.cell? ⟨bP, 0, none⟩ = some (.int .i64 p0) := (HP.out.cell 0).trans rfl
              have cP1 : wr.cell? ⟨bP, 1, none⟩ = some (.int .i64 p1) := (HP.out.cell 1).trans rfl
              have zN : bN < wr.heap.size := HN.out.lt
              have fN := HN.out.free
              have cN0 : wr.cell? ⟨bN, 0, none⟩ = some (.int .i64 fa) := (HN.out.cell 0).trans rfl
              have cN1 : wr.cell? ⟨bN, 1, none⟩ = some (.int .i64 fb) := (HN.out.cell 1).trans rfl
              go_wp2_with fail
              go_roundw
              case rel => exact ⟨v + 1, by omega, by go_num, kO.out⟩
              case measure => simp [intOf]; omega
        · skip
          go_wp2_with fail
          obtain ⟨best, hbst⟩ := LC.ex W H L
          have HB := hide hbst
          clear hbst
          clear zX fX cX0 cX1 cX2 zP fP cP0 cP1 zN fN cN0 cN1
          refine (LargestClear_any W H L Ax cx best _ hL10 HL.out HB.out).mono ?_; rintro e y1 ⟨rfl, hb⟩
          have HX := hide (HX.out.ext hb)
          have HP := hide (HP.out.ext hb)
          have HN := hide (HN.out.ext hb)
          have HL := hide (HL.out.ext hb)
          have kE := hide (kE.out.trans hb)
          have kO := hide (kO.out.trans hb)
          clear hb
          skip
          have zX : bX < y1.heap.size := HX.out.lt
          have fX := HX.out.free
          have cX0 : y1.cell? ⟨bX, 0, none⟩ = some (.int .i64 W) := (HX.out.cell 0).trans rfl
          have cX1 : y1.cell? ⟨bX, 1, none⟩ = some (.int .i64 H) := (HX.out.cell 1).trans rfl
          have cX2 : y1.cell? ⟨bX, 2, none⟩ = some (.slice Ax L.length cx) := (HX.out.cell 2).trans rfl
          have zP : bP < y1.heap.size := HP.out.lt
          have fP := HP.out.free
          have cP0 : y1.cell? ⟨bP, 0, none⟩ = some (.int .i64 p0) := (HP.out.cell 0).trans rfl
          have cP1 : y1.cell? ⟨bP, 1, none⟩ = some (.int .i64 p1) := (HP.out.cell 1).trans rfl
          have zN : bN < y1.heap.size := HN.out.lt
          have fN := HN.out.free
          have cN0 : y1.cell? ⟨bN, 0, none⟩ = some (.int .i64 fa) := (HN.out.cell 0).trans rfl
          have cN1 : y1.cell? ⟨bN, 1, none⟩ = some (.int .i64 fb) := (HN.out.cell 1).trans rfl
          go_wp2_with fail
          have nX0 : ¬ bX = y1.heap.size := by omega
          have nX1 : ¬ y1.heap.size = bX := by omega
          have nX2 : ¬ bX = y1.heap.size + 1 := by omega
          have nX3 : ¬ y1.heap.size + 1 = bX := by omega
          have hW0 : ¬ W = 0 := by omega
          have hH0 : ¬ H = 0 := by omega
          go_region_held3 (fun w' => w'.cell? ⟨bX, 0, none⟩ = some (.int .i64 W) ∧ w'.cell? ⟨bX, 1, none⟩ = some (.int .i64 H) ∧ w'.cell? ⟨bX, 2, none⟩ = some (.slice Ax L.length cx)) (first | exact ⟨cX0, cX1, cX2⟩ | exact ⟨d0, d1, d2⟩ | exact ⟨e0, e1, e2⟩ | go_keep) ((first | (have hq2 := q2; go_at_call 6; refine (atx_any l A cc _ _ (by decide) (by decide) hm (HR.out.ext (Ext.trans kE.out (by repeat (first | exact kB | exact kA | exact Ext.refl _ | apply Ext.alloc | apply Ext.drewN | apply Ext.drew))))).mono ?_; rintro e w' ⟨q3, rfl, rfl⟩) | (go_at_call 6; refine (atx_any l A cc _ _ (by decide) (by decide) hm (HR.out.ext (Ext.trans kE.out (by repeat (first | exact kB | exact kA | exact Ext.refl _ | apply Ext.alloc | apply Ext.drewN | apply Ext.drew))))).mono ?_; rintro e w' ⟨q2, rfl, rfl⟩) | ((with_reducible refine app1_0 ?_ (.tmp 110) (.tmp 112) ?_ ?_ ?_ HL.out hnil hL10 ?_); (· rfl); (· rfl); (· rfl); (· rfl); intro v1 w1 hown1 kA; have nX4 : ¬ bX = w1.heap.size := (by have := kA.size; omega); have nX5 : ¬ w1.heap.size = bX := (by have := kA.size; omega); have nX6 : ¬ bX = w1.heap.size + 1 := (by have := kA.size; omega); have nX7 : ¬ w1.heap.size + 1 = bX := (by have := kA.size; omega); have d0 := (kA.facts.1 bX 0 zX).trans cX0; have d1 := (kA.facts.1 bX 1 zX).trans cX1; have d2 := (kA.facts.1 bX 2 zX).trans cX2) | ((with_reducible refine app1_1 ?_ (.tmp 110) (.tmp 112) ?_ ?_ ?_ HL.out hnil hL10 ?_); (· rfl); (· rfl); (· rfl); (· rfl); intro v1 w1 hown1 kA sY; have nX4 : ¬ bX = w1.heap.size := (by have := kA.size; omega); have nX5 : ¬ w1.heap.size = bX := (by have := kA.size; omega); have nX6 : ¬ bX = w1.heap.size + 1 := (by have := kA.size; omega); have nX7 : ¬ w1.heap.size + 1 = bX := (by have := kA.size; omega); have d0 := (kA.facts.1 bX 0 zX).trans cX0; have d1 := (kA.facts.1 bX 1 zX).trans cX1; have d2 := (kA.facts.1 bX 2 zX).trans cX2) | ((with_reducible refine app1_2 ?_ (.tmp 110) (.tmp 112) ?_ ?_ ?_ HL.out hnil hL10 ?_); (· rfl); (· rfl); (· rfl); (· rfl); intro v1 w1 hown1 kA sY; have nX4 : ¬ bX = w1.heap.size := (by have := kA.size; omega); have nX5 : ¬ w1.heap.size = bX := (by have := kA.size; omega); have nX6 : ¬ bX = w1.heap.size + 1 := (by have := kA.size; omega); have nX7 : ¬ w1.heap.size + 1 = bX := (by have := kA.size; omega); have d0 := (kA.facts.1 bX 0 zX).trans cX0; have d1 := (kA.facts.1 bX 1 zX).trans cX1; have d2 := (kA.facts.1 bX 2 zX).trans cX2) | ((with_reducible refine app2_0 ?_ (.tmp 113) (.tmp 127) ?_ ?_ ?_ hown1 kA hL10 ?_); (· rfl); (· rfl); (· rfl); (· rfl); intro A2 c2 X w2 hX hown2 kB hB; have e0 := (kB.facts.1 bX 0 zX).trans cX0; have e1 := (kB.facts.1 bX 1 zX).trans cX1; have e2 := (kB.facts.1 bX 2 zX).trans cX2; (try (have sZ := hB _ _ sY; have s0 : w2.cell? ⟨_, 0, none⟩ = some (.int .i64 0) := (sZ.cell 0).trans rfl; have s1 : w2.cell? ⟨_, 1, none⟩ = some (.int .i64 0) := (sZ.cell 1).trans rfl; have s2 : w2.cell? ⟨_, 2, none⟩ = some (.slice none 0 0) := (sZ.cell 2).trans rfl; have s3 := sZ.free; have s4 := sZ.lt))) | ((with_reducible refine app2_1 ?_ (.tmp 113) (.tmp 127) ?_ ?_ ?_ hown1 kA hL10 ?_); (· rfl); (· rfl); (· rfl); (· rfl); intro A2 c2 X w2 hX hown2 kB sZ; have e0 := (kB.facts.1 bX 0 zX).trans cX0; have e1 := (kB.facts.1 bX 1 zX).trans cX1; have e2 := (kB.facts.1 bX 2 zX).trans cX2; have s0 : w2.cell? ⟨_, 0, none⟩ = some (.int .i64 0) := (sZ.cell 0).trans rfl; have s1 : w2.cell? ⟨_, 1, none⟩ = some (.int .i64 0) := (sZ.cell 1).trans rfl; have s2 : w2.cell? ⟨_, 2, none⟩ = some (.slice none 0 0) := (sZ.cell 2).trans rfl; have s3 := sZ.free; have s4 := sZ.lt) | ((with_reducible refine app2_2 ?_ (.tmp 113) (.tmp 127) ?_ ?_ ?_ hown1 kA hL10 ?_); (· rfl); (· rfl); (· rfl); (· rfl); intro A2 c2 X w2 hX hown2 kB sZ; have e0 := (kB.facts.1 bX 0 zX).trans cX0; have e1 := (kB.facts.1 bX 1 zX).trans cX1; have e2 := (kB.facts.1 bX 2 zX).trans cX2; have s0 : w2.cell? ⟨_, 0, none⟩ = some (.int .i64 0) := (sZ.cell 0).trans rfl; have s1 : w2.cell? ⟨_, 1, none⟩ = some (.int .i64 0) := (sZ.cell 1).trans rfl; have s2 : w2.cell? ⟨_, 2, none⟩ = some (.slice none 0 0) := (sZ.cell 2).trans rfl; have s3 := sZ.free; have s4 := sZ.lt) | fail))
          all_goals
            clear nX0 nX1 nX2 nX3 nX4 nX5 nX6 nX7 hW0 hH0 d0 d1 d2 e0 e1 e2
            clear zX fX cX0 cX1 cX2 zP fP cP0 cP1 zN fN cN0 cN1
            first
            | (obtain ⟨wz, hz⟩ : ∃ q, q = w2.alloc (Obj.cells #[Value.int IntKind.i64 W, Value.int IntKind.i64 H, Value.slice A2 X.length c2] 28) := ⟨_, rfl⟩; obtain ⟨bY, hy⟩ : ∃ q, q = w2.heap.size := ⟨_, rfl⟩; rw [← hz, ← hy]; have HY := hide (show Blk wz bY 28 [.int .i64 W, .int .i64 H, .slice A2 X.length c2] by rw [hz, hy]; exact Blk.new _ _ _); have HZ := hide (show R2 wz A2 X by rw [hz]; exact (Rds.of_own hown2).alloc _); have hB : Ext y1 wz := (by rw [hz]; exact kB.alloc _))
            | (have hsz : Blk w2 y1.heap.size 28 BoxL := (by with_reducible exact sZ); have hle : y1.heap.size ≤ y1.heap.size := (by have := kA.size; omega); obtain ⟨wz, hz⟩ : ∃ q, q = ((w2.setCell ⟨y1.heap.size, 0, none⟩ (Value.int IntKind.i64 W)).setCell ⟨y1.heap.size, 1, none⟩ (Value.int IntKind.i64 H)).setCell ⟨y1.heap.size, 2, none⟩ (Value.slice A2 X.length c2) := ⟨_, rfl⟩; rw [← hz]; have HZ := hide (show R2 wz A2 X by rw [hz]; exact Rds.of_own (own_put3 hown2 hsz (by decide) _ _ _)); have hB : Ext y1 wz := (by rw [hz]; exact Ext.setk (Ext.setk (Ext.setk kB hle _) hle _) hle _); have hY : Blk wz y1.heap.size 28 [.int .i64 W, .int .i64 H, .slice A2 X.length c2] := (by rw [hz]; exact ((hsz.set 0 _).set 1 _).set 2 _); clear hz; obtain ⟨bY, hy⟩ : ∃ q, q = y1.heap.size := ⟨_, rfl⟩; rw [← hy] at hY ⊢; have HY := hide hY; clear hY hsz hle s0 s1 s2 s3 s4 sZ)
            | (have hsz : Blk w2 (y1.heap.size + 1) 28 BoxL := (by with_reducible exact sZ); have hle : y1.heap.size ≤ (y1.heap.size + 1) := (by have := kA.size; omega); obtain ⟨wz, hz⟩ : ∃ q, q = ((w2.setCell ⟨(y1.heap.size + 1), 0, none⟩ (Value.int IntKind.i64 W)).setCell ⟨(y1.heap.size + 1), 1, none⟩ (Value.int IntKind.i64 H)).setCell ⟨(y1.heap.size + 1), 2, none⟩ (Value.slice A2 X.length c2) := ⟨_, rfl⟩; rw [← hz]; have HZ := hide (show R2 wz A2 X by rw [hz]; exact Rds.of_own (own_put3 hown2 hsz (by decide) _ _ _)); have hB : Ext y1 wz := (by rw [hz]; exact Ext.setk (Ext.setk (Ext.setk kB hle _) hle _) hle _); have hY : Blk wz (y1.heap.size + 1) 28 [.int .i64 W, .int .i64 H, .slice A2 X.length c2] := (by rw [hz]; exact ((hsz.set 0 _).set 1 _).set 2 _); clear hz; obtain ⟨bY, hy⟩ : ∃ q, q = (y1.heap.size + 1) := ⟨_, rfl⟩; rw [← hy] at hY ⊢; have HY := hide hY; clear hY hsz hle s0 s1 s2 s3 s4 sZ)
            | (have hsz : Blk w2 w1.heap.size 28 BoxL := (by with_reducible exact sZ); have hle : y1.heap.size ≤ w1.heap.size := (by have := kA.size; omega); obtain ⟨wz, hz⟩ : ∃ q, q = ((w2.setCell ⟨w1.heap.size, 0, none⟩ (Value.int IntKind.i64 W)).setCell ⟨w1.heap.size, 1, none⟩ (Value.int IntKind.i64 H)).setCell ⟨w1.heap.size, 2, none⟩ (Value.slice A2 X.length c2) := ⟨_, rfl⟩; rw [← hz]; have HZ := hide (show R2 wz A2 X by rw [hz]; exact Rds.of_own (own_put3 hown2 hsz (by decide) _ _ _)); have hB : Ext y1 wz := (by rw [hz]; exact Ext.setk (Ext.setk (Ext.setk kB hle _) hle _) hle _); have hY : Blk wz w1.heap.size 28 [.int .i64 W, .int .i64 H, .slice A2 X.length c2] := (by rw [hz]; exact ((hsz.set 0 _).set 1 _).set 2 _); clear hz; obtain ⟨bY, hy⟩ : ∃ q, q = w1.heap.size := ⟨_, rfl⟩; rw [← hy] at hY ⊢; have HY := hide hY; clear hY hsz hle s0 s1 s2 s3 s4 sZ)
            | (have hsz : Blk w2 (w1.heap.size + 1) 28 BoxL := (by with_reducible exact sZ); have hle : y1.heap.size ≤ (w1.heap.size + 1) := (by have := kA.size; omega); obtain ⟨wz, hz⟩ : ∃ q, q = ((w2.setCell ⟨(w1.heap.size + 1), 0, none⟩ (Value.int IntKind.i64 W)).setCell ⟨(w1.heap.size + 1), 1, none⟩ (Value.int IntKind.i64 H)).setCell ⟨(w1.heap.size + 1), 2, none⟩ (Value.slice A2 X.length c2) := ⟨_, rfl⟩; rw [← hz]; have HZ := hide (show R2 wz A2 X by rw [hz]; exact Rds.of_own (own_put3 hown2 hsz (by decide) _ _ _)); have hB : Ext y1 wz := (by rw [hz]; exact Ext.setk (Ext.setk (Ext.setk kB hle _) hle _) hle _); have hY : Blk wz (w1.heap.size + 1) 28 [.int .i64 W, .int .i64 H, .slice A2 X.length c2] := (by rw [hz]; exact ((hsz.set 0 _).set 1 _).set 2 _); clear hz; obtain ⟨bY, hy⟩ : ∃ q, q = (w1.heap.size + 1) := ⟨_, rfl⟩; rw [← hy] at hY ⊢; have HY := hide hY; clear hY hsz hle s0 s1 s2 s3 s4 sZ)
            (try clear hz)
            (try clear sY)
            (try clear hB_)
            clear hy kB hown1 hown2 kA
            have HX := hide (HX.out.ext hB)
            have HP := hide (HP.out.ext hB)
            have HN := hide (HN.out.ext hB)
            have HL := hide (HL.out.ext hB)
            have kE := hide (kE.out.trans hB)
            have kO := hide (kO.out.trans hB)
            clear hB
            have hWH : 1 ≤ W * H := Int.mul_pos (by omega) (by omega)
            have hWH2 : W * H ≤ 8 * 8 := Int.mul_le_mul bW.2 bH.2 (by omega) (by omega)
            have zX : bX < wz.heap.size := HX.out.lt
            have fX := HX.out.free
            have cX0 : wz.cell? ⟨bX, 0, none⟩ = some (.int .i64 W) := (HX.out.cell 0).trans rfl
            have cX1 : wz.cell? ⟨bX, 1, none⟩ = some (.int .i64 H) := (HX.out.cell 1).trans rfl
            have cX2 : wz.cell? ⟨bX, 2, none⟩ = some (.slice Ax L.length cx) := (HX.out.cell 2).trans rfl
            have zP : bP < wz.heap.size := HP.out.lt
            have fP := HP.out.free
            have cP0 : wz.cell? ⟨bP, 0, none⟩ = some (.int .i64 p0) := (HP.out.cell 0).trans rfl
            have cP1 : wz.cell? ⟨bP, 1, none⟩ = some (.int .i64 p1) := (HP.out.cell 1).trans rfl
            have zN : bN < wz.heap.size := HN.out.lt
            have fN := HN.out.free
            have cN0 : wz.cell? ⟨bN, 0, none⟩ = some (.int .i64 fa) := (HN.out.cell 0).trans rfl
            have cN1 : wz.cell? ⟨bN, 1, none⟩ = some (.int .i64 fb) := (HN.out.cell 1).trans rfl
            have zY : bY < wz.heap.size := HY.out.lt
            have fY := HY.out.free
            have cY0 : wz.cell? ⟨bY, 0, none⟩ = some (.int .i64 W) := (HY.out.cell 0).trans rfl
            have cY1 : wz.cell? ⟨bY, 1, none⟩ = some (.int .i64 H) := (HY.out.cell 1).trans rfl
            have cY2 : wz.cell? ⟨bY, 2, none⟩ = some (.slice A2 X.length c2) := (HY.out.cell 2).trans rfl
            go_wp2_with fail
            clear zX fX cX0 cX1 cX2 zP fP cP0 cP1 zN fN cN0 cN1 zY fY cY0 cY1 cY2
            refine (CountSpots_any W H L Ax cx 0 0 W H _ hL10 hcx HL.out).mono ?_; rintro e wa ⟨rfl, hb⟩
            have HX := hide (HX.out.ext hb)
            have HP := hide (HP.out.ext hb)
            have HN := hide (HN.out.ext hb)
            have HY := hide (HY.out.ext hb)
            have HL := hide (HL.out.ext hb)
            have HZ := hide (HZ.out.ext hb)
            have kE := hide (kE.out.trans hb)
            have kO := hide (kO.out.trans hb)
            clear hb
            have zX : bX < wa.heap.size := HX.out.lt
            have fX := HX.out.free
            have cX0 : wa.cell? ⟨bX, 0, none⟩ = some (.int .i64 W) := (HX.out.cell 0).trans rfl
            have cX1 : wa.cell? ⟨bX, 1, none⟩ = some (.int .i64 H) := (HX.out.cell 1).trans rfl
            have cX2 : wa.cell? ⟨bX, 2, none⟩ = some (.slice Ax L.length cx) := (HX.out.cell 2).trans rfl
            have zP : bP < wa.heap.size := HP.out.lt
            have fP := HP.out.free
            have cP0 : wa.cell? ⟨bP, 0, none⟩ = some (.int .i64 p0) := (HP.out.cell 0).trans rfl
            have cP1 : wa.cell? ⟨bP, 1, none⟩ = some (.int .i64 p1) := (HP.out.cell 1).trans rfl
            have zN : bN < wa.heap.size := HN.out.lt
            have fN := HN.out.free
            have cN0 : wa.cell? ⟨bN, 0, none⟩ = some (.int .i64 fa) := (HN.out.cell 0).trans rfl
            have cN1 : wa.cell? ⟨bN, 1, none⟩ = some (.int .i64 fb) := (HN.out.cell 1).trans rfl
            have zY : bY < wa.heap.size := HY.out.lt
            have fY := HY.out.free
            have cY0 : wa.cell? ⟨bY, 0, none⟩ = some (.int .i64 W) := (HY.out.cell 0).trans rfl
            have cY1 : wa.cell? ⟨bY, 1, none⟩ = some (.int .i64 H) := (HY.out.cell 1).trans rfl
            have cY2 : wa.cell? ⟨bY, 2, none⟩ = some (.slice A2 X.length c2) := (HY.out.cell 2).trans rfl
            go_wp2_with fail
            clear zX fX cX0 cX1 cX2 zP fP cP0 cP1 zN fN cN0 cN1 zY fY cY0 cY1 cY2
            refine (FlawedOk_any W H L Ax cx _ hL10 HL.out).mono ?_; rintro e wb ⟨rfl, hb⟩
            have HX := hide (HX.out.ext hb)
            have HP := hide (HP.out.ext hb)
            have HN := hide (HN.out.ext hb)
            have HY := hide (HY.out.ext hb)
            have HL := hide (HL.out.ext hb)
            have HZ := hide (HZ.out.ext hb)
            have kE := hide (kE.out.trans hb)
            have kO := hide (kO.out.trans hb)
            clear hb
            rw [HF.out.ok]
            obtain ⟨best2, hb2⟩ := LC.ex W H X
            have HB2 := hide hb2
            clear hb2
            have hXl : X.length ≤ 1048576 := by rw [hX.out]; simp; omega
            have F := flaws_law HF.out hp HV.out HB.out (q := (q2.tmod W, q3.tmod H)) (hX.out ▸ HB2.out)
            obtain ⟨sp, hsp⟩ : ∃ q, q = spots W H L (0, 0) (W, H) := ⟨_, rfl⟩
            rw [← hsp] at F ⊢
            clear hsp
            obtain ⟨g1, g2, g3, g4, g5, g6⟩ := F
            obtain ⟨ba, hba⟩ : ∃ b, b = decide ((L.length : Int) = 0) := ⟨_, rfl⟩
            have j1 : decide ((L.length : Int) = 0) = ba := hba.symm
            have j2 : ((L.length : Int) == 0) = ba := by rw [hba]; rfl
            have j3 : decide (best = W * H) = ba := by rw [hba]; exact decide_eq_decide.2 g3
            have j4 : (best == W * H) = ba := by rw [← j3]; rfl
            have j5 : decide (sp = 0) = ba := by rw [hba]; exact decide_eq_decide.2 g6
            have j6 : (sp == 0) = ba := by rw [← j5]; rfl
            have g7 : decide (best ≤ W * H) = true := decide_eq_true g1
            have g8 : decide (best2 ≤ best) = true := decide_eq_true g2
            have g9 : decide (sp ≤ (L.length : Int)) = true := decide_eq_true g5
            clear hba g3 g6 g4
            have zX : bX < wb.heap.size := HX.out.lt
            have fX := HX.out.free
            have cX0 : wb.cell? ⟨bX, 0, none⟩ = some (.int .i64 W) := (HX.out.cell 0).trans rfl
            have cX1 : wb.cell? ⟨bX, 1, none⟩ = some (.int .i64 H) := (HX.out.cell 1).trans rfl
            have cX2 : wb.cell? ⟨bX, 2, none⟩ = some (.slice Ax L.length cx) := (HX.out.cell 2).trans rfl
            have zP : bP < wb.heap.size := HP.out.lt
            have fP := HP.out.free
            have cP0 : wb.cell? ⟨bP, 0, none⟩ = some (.int .i64 p0) := (HP.out.cell 0).trans rfl
            have cP1 : wb.cell? ⟨bP, 1, none⟩ = some (.int .i64 p1) := (HP.out.cell 1).trans rfl
            have zN : bN < wb.heap.size := HN.out.lt
            have fN := HN.out.free
            have cN0 : wb.cell? ⟨bN, 0, none⟩ = some (.int .i64 fa) := (HN.out.cell 0).trans rfl
            have cN1 : wb.cell? ⟨bN, 1, none⟩ = some (.int .i64 fb) := (HN.out.cell 1).trans rfl
            have zY : bY < wb.heap.size := HY.out.lt
            have fY := HY.out.free
            have cY0 : wb.cell? ⟨bY, 0, none⟩ = some (.int .i64 W) := (HY.out.cell 0).trans rfl
            have cY1 : wb.cell? ⟨bY, 1, none⟩ = some (.int .i64 H) := (HY.out.cell 1).trans rfl
            have cY2 : wb.cell? ⟨bY, 2, none⟩ = some (.slice A2 X.length c2) := (HY.out.cell 2).trans rfl
            go_wp2_with fail
            clear zX fX cX0 cX1 cX2 zP fP cP0 cP1 zN fN cN0 cN1 zY fY cY0 cY1 cY2
            refine (LargestClear_any W H X A2 c2 best2 _ hXl HZ.out HB2.out).mono ?_; rintro e wc ⟨rfl, hb⟩
            have HX := hide (HX.out.ext hb)
            have HP := hide (HP.out.ext hb)
            have HN := hide (HN.out.ext hb)
            have HY := hide (HY.out.ext hb)
            have HL := hide (HL.out.ext hb)
            have HZ := hide (HZ.out.ext hb)
            have kE := hide (kE.out.trans hb)
            have kO := hide (kO.out.trans hb)
            clear hb
            have zX : bX < wc.heap.size := HX.out.lt
            have fX := HX.out.free
            have cX0 : wc.cell? ⟨bX, 0, none⟩ = some (.int .i64 W) := (HX.out.cell 0).trans rfl
            have cX1 : wc.cell? ⟨bX, 1, none⟩ = some (.int .i64 H) := (HX.out.cell 1).trans rfl
            have cX2 : wc.cell? ⟨bX, 2, none⟩ = some (.slice Ax L.length cx) := (HX.out.cell 2).trans rfl
            have zP : bP < wc.heap.size := HP.out.lt
            have fP := HP.out.free
            have cP0 : wc.cell? ⟨bP, 0, none⟩ = some (.int .i64 p0) := (HP.out.cell 0).trans rfl
            have cP1 : wc.cell? ⟨bP, 1, none⟩ = some (.int .i64 p1) := (HP.out.cell 1).trans rfl
            have zN : bN < wc.heap.size := HN.out.lt
            have fN := HN.out.free
            have cN0 : wc.cell? ⟨bN, 0, none⟩ = some (.int .i64 fa) := (HN.out.cell 0).trans rfl
            have cN1 : wc.cell? ⟨bN, 1, none⟩ = some (.int .i64 fb) := (HN.out.cell 1).trans rfl
            have zY : bY < wc.heap.size := HY.out.lt
            have fY := HY.out.free
            have cY0 : wc.cell? ⟨bY, 0, none⟩ = some (.int .i64 W) := (HY.out.cell 0).trans rfl
            have cY1 : wc.cell? ⟨bY, 1, none⟩ = some (.int .i64 H) := (HY.out.cell 1).trans rfl
            have cY2 : wc.cell? ⟨bY, 2, none⟩ = some (.slice A2 X.length c2) := (HY.out.cell 2).trans rfl
            go_wp2_with fail
            clear zX fX cX0 cX1 cX2 zP fP cP0 cP1 zN fN cN0 cN1 zY fY cY0 cY1 cY2
            go_ret
            exact ⟨rfl, kE.out⟩
    · skip
      have zX : bX < w4.heap.size := HX.out.lt
      have fX := HX.out.free
      have cX0 : w4.cell? ⟨bX, 0, none⟩ = some (.int .i64 W) := (HX.out.cell 0).trans rfl
      have cX1 : w4.cell? ⟨bX, 1, none⟩ = some (.int .i64 H) := (HX.out.cell 1).trans rfl
      have cX2 : w4.cell? ⟨bX, 2, none⟩ = some (.slice Ax L.length cx) := (HX.out.cell 2).trans rfl
      have zP : bP < w4.heap.size := HP.out.lt
      have fP := HP.out.free
      have cP0 : w4.cell? ⟨bP, 0, none⟩ = some (.int .i64 p0) := (HP.out.cell 0).trans rfl
      have cP1 : w4.cell? ⟨bP, 1, none⟩ = some (.int .i64 p1) := (HP.out.cell 1).trans rfl
      go_wp2_with fail
      clear zX fX cX0 cX1 cX2 zP fP cP0 cP1
      obtain ⟨bN, hbw⟩ : ∃ q, q = w4.heap.size := ⟨_, rfl⟩
      obtain ⟨w5, hw⟩ : ∃ q, q = w4.alloc (Obj.cells #[.int .i64 fa, .int .i64 fb] 32) := ⟨_, rfl⟩
      have HX := hide (show Blk w5 _ _ _ by rw [hw]; exact HX.out.ext ((Ext.refl _).alloc _))
      have HP := hide (show Blk w5 _ _ _ by rw [hw]; exact HP.out.ext ((Ext.refl _).alloc _))
      have HN := hide (show Blk w5 bN 32 [.int .i64 fa, .int .i64 fb] by rw [hw, hbw]; exact Blk.new _ _ _)
      have HL := hide (show Rds w5 _ _ _ _ by rw [hw]; exact HL.out.ext ((Ext.refl _).alloc _))
      have kE := hide (show Ext _ w5 by rw [hw]; exact kE.out.alloc _)
      rw [← hw]
      (try rw [← hbw])
      clear hw hbw
      have K := first_law HF.out hp HV.out
      refine (IsClear_any W H L Ax cx fa fb p0 p1 _ hL10 HL.out).mono ?_; rintro e w6 ⟨rfl, hb⟩
      have HX := hide (HX.out.ext hb)
      have HP := hide (HP.out.ext hb)
      have HN := hide (HN.out.ext hb)
      have HL := hide (HL.out.ext hb)
      have kE := hide (kE.out.trans hb)
      clear hb
      rw [K.1]
      have zX : bX < w6.heap.size := HX.out.lt
      have fX := HX.out.free
      have cX0 : w6.cell? ⟨bX, 0, none⟩ = some (.int .i64 W) := (HX.out.cell 0).trans rfl
      have cX1 : w6.cell? ⟨bX, 1, none⟩ = some (.int .i64 H) := (HX.out.cell 1).trans rfl
      have cX2 : w6.cell? ⟨bX, 2, none⟩ = some (.slice Ax L.length cx) := (HX.out.cell 2).trans rfl
      have zP : bP < w6.heap.size := HP.out.lt
      have fP := HP.out.free
      have cP0 : w6.cell? ⟨bP, 0, none⟩ = some (.int .i64 p0) := (HP.out.cell 0).trans rfl
      have cP1 : w6.cell? ⟨bP, 1, none⟩ = some (.int .i64 p1) := (HP.out.cell 1).trans rfl
      have zN : bN < w6.heap.size := HN.out.lt
      have fN := HN.out.free
      have cN0 : w6.cell? ⟨bN, 0, none⟩ = some (.int .i64 fa) := (HN.out.cell 0).trans rfl
      have cN1 : w6.cell? ⟨bN, 1, none⟩ = some (.int .i64 fb) := (HN.out.cell 1).trans rfl
      go_wp2_with fail
      clear zX fX cX0 cX1 cX2 zP fP cP0 cP1 zN fN cN0 cN1
      refine (CountSpots_any W H L Ax cx fa fb p0 p1 _ hL10 hcx HL.out).mono ?_; rintro e w7 ⟨rfl, hb⟩
      have HX := hide (HX.out.ext hb)
      have HP := hide (HP.out.ext hb)
      have HN := hide (HN.out.ext hb)
      have HL := hide (HL.out.ext hb)
      have kE := hide (kE.out.trans hb)
      clear hb
      rw [K.2]
      clear K
      have zX : bX < w7.heap.size := HX.out.lt
      have fX := HX.out.free
      have cX0 : w7.cell? ⟨bX, 0, none⟩ = some (.int .i64 W) := (HX.out.cell 0).trans rfl
      have cX1 : w7.cell? ⟨bX, 1, none⟩ = some (.int .i64 H) := (HX.out.cell 1).trans rfl
      have cX2 : w7.cell? ⟨bX, 2, none⟩ = some (.slice Ax L.length cx) := (HX.out.cell 2).trans rfl
      have zP : bP < w7.heap.size := HP.out.lt
      have fP := HP.out.free
      have cP0 : w7.cell? ⟨bP, 0, none⟩ = some (.int .i64 p0) := (HP.out.cell 0).trans rfl
      have cP1 : w7.cell? ⟨bP, 1, none⟩ = some (.int .i64 p1) := (HP.out.cell 1).trans rfl
      have zN : bN < w7.heap.size := HN.out.lt
      have fN := HN.out.free
      have cN0 : w7.cell? ⟨bN, 0, none⟩ = some (.int .i64 fa) := (HN.out.cell 0).trans rfl
      have cN1 : w7.cell? ⟨bN, 1, none⟩ = some (.int .i64 fb) := (HN.out.cell 1).trans rfl
      go_wp2_with fail
      clear zX fX cX0 cX1 cX2 zP fP cP0 cP1 zN fN cN0 cN1
      have kO := hide (Ext.refl w7)
      go_loopw [7] (fun i wr => ∃ v : Nat, v ≤ 10 ∧ i = .int .i64 v ∧ Ext w7 wr) (fun i _ => 20 - (intOf i).toNat)
      case atStart => exact ⟨0, by omega, rfl, Ext.refl _⟩
      case round =>
        obtain ⟨v, hv10, rfl, hEr⟩ := hrel
        have HX := hide (HX.out.ext hEr)
        have HP := hide (HP.out.ext hEr)
        have HN := hide (HN.out.ext hEr)
        have HL := hide (HL.out.ext hEr)
        have kE := hide (kE.out.trans hEr)
        have kO := hide (kO.out.trans hEr)
        clear hEr
        have zX : bX < wr.heap.size := HX.out.lt
        have fX := HX.out.free
        have cX0 : wr.cell? ⟨bX, 0, none⟩ = some (.int .i64 W) := (HX.out.cell 0).trans rfl
        have cX1 : wr.cell? ⟨bX, 1, none⟩ = some (.int .i64 H) := (HX.out.cell 1).trans rfl
        have cX2 : wr.cell? ⟨bX, 2, none⟩ = some (.slice Ax L.length cx) := (HX.out.cell 2).trans rfl
        have zP : bP < wr.heap.size := HP.out.lt
        have fP := HP.out.free
        have cP0 : wr.cell? ⟨bP, 0, none⟩ = some (.int .i64 p0) := (HP.out.cell 0).trans rfl
        have cP1 : wr.cell? ⟨bP, 1, none⟩ = some (.int .i64 p1) := (HP.out.cell 1).trans rfl
        have zN : bN < wr.heap.size := HN.out.lt
        have fN := HN.out.free
        have cN0 : wr.cell? ⟨bN, 0, none⟩ = some (.int .i64 fa) := (HN.out.cell 0).trans rfl
        have cN1 : wr.cell? ⟨bN, 1, none⟩ = some (.int .i64 fb) := (HN.out.cell 1).trans rfl
        by_cases hvv : (v : Int) ≤ H - p1
        · skip
          go_wp2_with fail
          clear zX fX cX0 cX1 cX2 zP fP cP0 cP1 zN fN cN0 cN1
          obtain ⟨wb, hwb⟩ : ∃ q, q = wr := ⟨_, rfl⟩
          subst hwb
          have kI := hide (Ext.refl wb)
          go_loopw [8] (fun i wi => ∃ u : Nat, u ≤ 10 ∧ i = .int .i64 u ∧ Ext wb wi) (fun i _ => 20 - (intOf i).toNat)
          case atStart => exact ⟨0, by omega, rfl, Ext.refl _⟩
          case round =>
            obtain ⟨u, hu10, rfl, hEi⟩ := hrel
            have HX := hide (HX.out.ext hEi)
            have HP := hide (HP.out.ext hEi)
            have HN := hide (HN.out.ext hEi)
            have HL := hide (HL.out.ext hEi)
            have kE := hide (kE.out.trans hEi)
            have kO := hide (kO.out.trans hEi)
            have kI := hide (kI.out.trans hEi)
            clear hEi
            by_cases huu : (u : Int) ≤ W - p0
            · skip
              by_cases b1 : (v : Int) < fb
              · skip
                have K := before_law HF.out hp HV.out (u := u) (t := v) (by omega) (by omega) (.inr (.inl b1))
                have zX : bX < wr.heap.size := HX.out.lt
                have fX := HX.out.free
                have cX0 : wr.cell? ⟨bX, 0, none⟩ = some (.int .i64 W) := (HX.out.cell 0).trans rfl
                have cX1 : wr.cell? ⟨bX, 1, none⟩ = some (.int .i64 H) := (HX.out.cell 1).trans rfl
                have cX2 : wr.cell? ⟨bX, 2, none⟩ = some (.slice Ax L.length cx) := (HX.out.cell 2).trans rfl
                have zP : bP < wr.heap.size := HP.out.lt
                have fP := HP.out.free
                have cP0 : wr.cell? ⟨bP, 0, none⟩ = some (.int .i64 p0) := (HP.out.cell 0).trans rfl
                have cP1 : wr.cell? ⟨bP, 1, none⟩ = some (.int .i64 p1) := (HP.out.cell 1).trans rfl
                have zN : bN < wr.heap.size := HN.out.lt
                have fN := HN.out.free
                have cN0 : wr.cell? ⟨bN, 0, none⟩ = some (.int .i64 fa) := (HN.out.cell 0).trans rfl
                have cN1 : wr.cell? ⟨bN, 1, none⟩ = some (.int .i64 fb) := (HN.out.cell 1).trans rfl
                go_wp2_with fail
                clear zX fX cX0 cX1 cX2 zP fP cP0 cP1 zN fN cN0 cN1
                obtain ⟨bA, hbw⟩ : ∃ q, q = wr.heap.size := ⟨_, rfl⟩
                obtain ⟨wa, hw⟩ : ∃ q, q = wr.alloc (Obj.cells #[.int .i64 (u : Int), .int .i64 (v : Int)] 32) := ⟨_, rfl⟩
                have HX := hide (show Blk wa _ _ _ by rw [hw]; exact HX.out.ext ((Ext.refl _).alloc _))
                have HP := hide (show Blk wa _ _ _ by rw [hw]; exact HP.out.ext ((Ext.refl _).alloc _))
                have HN := hide (show Blk wa _ _ _ by rw [hw]; exact HN.out.ext ((Ext.refl _).alloc _))
                have HA := hide (show Blk wa bA 32 [.int .i64 (u : Int), .int .i64 (v : Int)] by rw [hw, hbw]; exact Blk.new _ _ _)
                have HL := hide (show Rds wa _ _ _ _ by rw [hw]; exact HL.out.ext ((Ext.refl _).alloc _))
                have kE := hide (show Ext _ wa by rw [hw]; exact kE.out.alloc _)
                have kO := hide (show Ext _ wa by rw [hw]; exact kO.out.alloc _)
                have kI := hide (show Ext _ wa by rw [hw]; exact kI.out.alloc _)
                rw [← hw]
                (try rw [← hbw])
                clear hw hbw
                refine (IsClear_any W H L Ax cx u v p0 p1 _ hL10 HL.out).mono ?_; rintro e wc ⟨rfl, hb⟩
                have HX := hide (HX.out.ext hb)
                have HP := hide (HP.out.ext hb)
                have HN := hide (HN.out.ext hb)
                have HA := hide (HA.out.ext hb)
                have HL := hide (HL.out.ext hb)
                have kE := hide (kE.out.trans hb)
                have kO := hide (kO.out.trans hb)
                have kI := hide (kI.out.trans hb)
                clear hb
                rw [K.1]
                have zX : bX < wc.heap.size := HX.out.lt
                have fX := HX.out.free
                have cX0 : wc.cell? ⟨bX, 0, none⟩ = some (.int .i64 W) := (HX.out.cell 0).trans rfl
                have cX1 : wc.cell? ⟨bX, 1, none⟩ = some (.int .i64 H) := (HX.out.cell 1).trans rfl
                have cX2 : wc.cell? ⟨bX, 2, none⟩ = some (.slice Ax L.length cx) := (HX.out.cell 2).trans rfl
                have zP : bP < wc.heap.size := HP.out.lt
                have fP := HP.out.free
                have cP0 : wc.cell? ⟨bP, 0, none⟩ = some (.int .i64 p0) := (HP.out.cell 0).trans rfl
                have cP1 : wc.cell? ⟨bP, 1, none⟩ = some (.int .i64 p1) := (HP.out.cell 1).trans rfl
                have zN : bN < wc.heap.size := HN.out.lt
                have fN := HN.out.free
                have cN0 : wc.cell? ⟨bN, 0, none⟩ = some (.int .i64 fa) := (HN.out.cell 0).trans rfl
                have cN1 : wc.cell? ⟨bN, 1, none⟩ = some (.int .i64 fb) := (HN.out.cell 1).trans rfl
                have zA : bA < wc.heap.size := HA.out.lt
                have fA := HA.out.free
                have cA0 : wc.cell? ⟨bA, 0, none⟩ = some (.int .i64 (u : Int)) := (HA.out.cell 0).trans rfl
                have cA1 : wc.cell? ⟨bA, 1, none⟩ = some (.int .i64 (v : Int)) := (HA.out.cell 1).trans rfl
                go_wp2_with fail
                clear zX fX cX0 cX1 cX2 zP fP cP0 cP1 zN fN cN0 cN1 zA fA cA0 cA1
                refine (CountSpots_any W H L Ax cx u v p0 p1 _ hL10 hcx HL.out).mono ?_; rintro e wd ⟨rfl, hb⟩
                have HX := hide (HX.out.ext hb)
                have HP := hide (HP.out.ext hb)
                have HN := hide (HN.out.ext hb)
                have HA := hide (HA.out.ext hb)
                have HL := hide (HL.out.ext hb)
                have kE := hide (kE.out.trans hb)
                have kO := hide (kO.out.trans hb)
                have kI := hide (kI.out.trans hb)
                clear hb
                obtain ⟨sp, hsp⟩ : ∃ q, spots W H L ((u : Int), (v : Int)) (p0, p1) = q := ⟨_, rfl⟩
                have K2 := K.2
                rw [hsp] at K2 ⊢
                have k3 : (sp == 0) = false := by simpa using K2
                have k4 : decide (sp = 0) = false := decide_eq_false K2
                clear K hsp
                have zX : bX < wd.heap.size := HX.out.lt
                have fX := HX.out.free
                have cX0 : wd.cell? ⟨bX, 0, none⟩ = some (.int .i64 W) := (HX.out.cell 0).trans rfl
                have cX1 : wd.cell? ⟨bX, 1, none⟩ = some (.int .i64 H) := (HX.out.cell 1).trans rfl
                have cX2 : wd.cell? ⟨bX, 2, none⟩ = some (.slice Ax L.length cx) := (HX.out.cell 2).trans rfl
                have zP : bP < wd.heap.size := HP.out.lt
                have fP := HP.out.free
                have cP0 : wd.cell? ⟨bP, 0, none⟩ = some (.int .i64 p0) := (HP.out.cell 0).trans rfl
                have cP1 : wd.cell? ⟨bP, 1, none⟩ = some (.int .i64 p1) := (HP.out.cell 1).trans rfl
                have zN : bN < wd.heap.size := HN.out.lt
                have fN := HN.out.free
                have cN0 : wd.cell? ⟨bN, 0, none⟩ = some (.int .i64 fa) := (HN.out.cell 0).trans rfl
                have cN1 : wd.cell? ⟨bN, 1, none⟩ = some (.int .i64 fb) := (HN.out.cell 1).trans rfl
                have zA : bA < wd.heap.size := HA.out.lt
                have fA := HA.out.free
                have cA0 : wd.cell? ⟨bA, 0, none⟩ = some (.int .i64 (u : Int)) := (HA.out.cell 0).trans rfl
                have cA1 : wd.cell? ⟨bA, 1, none⟩ = some (.int .i64 (v : Int)) := (HA.out.cell 1).trans rfl
                go_wp2_with fail
                clear zX fX cX0 cX1 cX2 zP fP cP0 cP1 zN fN cN0 cN1 zA fA cA0 cA1
                go_roundw
                case rel => exact ⟨u + 1, by omega, by go_num, kI.out⟩
                case measure => simp [intOf]; omega
              · by_cases b2 : (v : Int) = fb
                · subst b2
                  by_cases b3 : (u : Int) < fa
                  · skip
                    have K := before_law HF.out hp HV.out (u := u) (t := v) (by omega) (by omega) (.inr (.inr ⟨rfl, b3⟩))
                    have zX : bX < wr.heap.size := HX.out.lt
                    have fX := HX.out.free
                    have cX0 : wr.cell? ⟨bX, 0, none⟩ = some (.int .i64 W) := (HX.out.cell 0).trans rfl
                    have cX1 : wr.cell? ⟨bX, 1, none⟩ = some (.int .i64 H) := (HX.out.cell 1).trans rfl
                    have cX2 : wr.cell? ⟨bX, 2, none⟩ = some (.slice Ax L.length cx) := (HX.out.cell 2).trans rfl
                    have zP : bP < wr.heap.size := HP.out.lt
                    have fP := HP.out.free
                    have cP0 : wr.cell? ⟨bP, 0, none⟩ = some (.int .i64 p0) := (HP.out.cell 0).trans rfl
                    have cP1 : wr.cell? ⟨bP, 1, none⟩ = some (.int .i64 p1) := (HP.out.cell 1).trans rfl
                    have zN : bN < wr.heap.size := HN.out.lt
                    have fN := HN.out.free
                    have cN0 : wr.cell? ⟨bN, 0, none⟩ = some (.int .i64 fa) := (HN.out.cell 0).trans rfl
                    have cN1 : wr.cell? ⟨bN, 1, none⟩ = some (.int .i64 (v : Int)) := (HN.out.cell 1).trans rfl
                    go_wp2_with fail
                    clear zX fX cX0 cX1 cX2 zP fP cP0 cP1 zN fN cN0 cN1
                    obtain ⟨bA, hbw⟩ : ∃ q, q = wr.heap.size := ⟨_, rfl⟩
                    obtain ⟨wa, hw⟩ : ∃ q, q = wr.alloc (Obj.cells #[.int .i64 (u : Int), .int .i64 (v : Int)] 32) := ⟨_, rfl⟩
                    have HX := hide (show Blk wa _ _ _ by rw [hw]; exact HX.out.ext ((Ext.refl _).alloc _))
                    have HP := hide (show Blk wa _ _ _ by rw [hw]; exact HP.out.ext ((Ext.refl _).alloc _))
                    have HN := hide (show Blk wa _ _ _ by rw [hw]; exact HN.out.ext ((Ext.refl _).alloc _))
                    have HA := hide (show Blk wa bA 32 [.int .i64 (u : Int), .int .i64 (v : Int)] by rw [hw, hbw]; exact Blk.new _ _ _)
                    have HL := hide (show Rds wa _ _ _ _ by rw [hw]; exact HL.out.ext ((Ext.refl _).alloc _))
                    have kE := hide (show Ext _ wa by rw [hw]; exact kE.out.alloc _)
                    have kO := hide (show Ext _ wa by rw [hw]; exact kO.out.alloc _)
                    have kI := hide (show Ext _ wa by rw [hw]; exact kI.out.alloc _)
                    rw [← hw]
                    (try rw [← hbw])
                    clear hw hbw
                    refine (IsClear_any W H L Ax cx u v p0 p1 _ hL10 HL.out).mono ?_; rintro e wc ⟨rfl, hb⟩
                    have HX := hide (HX.out.ext hb)
                    have HP := hide (HP.out.ext hb)
                    have HN := hide (HN.out.ext hb)
                    have HA := hide (HA.out.ext hb)
                    have HL := hide (HL.out.ext hb)
                    have kE := hide (kE.out.trans hb)
                    have kO := hide (kO.out.trans hb)
                    have kI := hide (kI.out.trans hb)
                    clear hb
                    rw [K.1]
                    have zX : bX < wc.heap.size := HX.out.lt
                    have fX := HX.out.free
                    have cX0 : wc.cell? ⟨bX, 0, none⟩ = some (.int .i64 W) := (HX.out.cell 0).trans rfl
                    have cX1 : wc.cell? ⟨bX, 1, none⟩ = some (.int .i64 H) := (HX.out.cell 1).trans rfl
                    have cX2 : wc.cell? ⟨bX, 2, none⟩ = some (.slice Ax L.length cx) := (HX.out.cell 2).trans rfl
                    have zP : bP < wc.heap.size := HP.out.lt
                    have fP := HP.out.free
                    have cP0 : wc.cell? ⟨bP, 0, none⟩ = some (.int .i64 p0) := (HP.out.cell 0).trans rfl
                    have cP1 : wc.cell? ⟨bP, 1, none⟩ = some (.int .i64 p1) := (HP.out.cell 1).trans rfl
                    have zN : bN < wc.heap.size := HN.out.lt
                    have fN := HN.out.free
                    have cN0 : wc.cell? ⟨bN, 0, none⟩ = some (.int .i64 fa) := (HN.out.cell 0).trans rfl
                    have cN1 : wc.cell? ⟨bN, 1, none⟩ = some (.int .i64 (v : Int)) := (HN.out.cell 1).trans rfl
                    have zA : bA < wc.heap.size := HA.out.lt
                    have fA := HA.out.free
                    have cA0 : wc.cell? ⟨bA, 0, none⟩ = some (.int .i64 (u : Int)) := (HA.out.cell 0).trans rfl
                    have cA1 : wc.cell? ⟨bA, 1, none⟩ = some (.int .i64 (v : Int)) := (HA.out.cell 1).trans rfl
                    go_wp2_with fail
                    clear zX fX cX0 cX1 cX2 zP fP cP0 cP1 zN fN cN0 cN1 zA fA cA0 cA1
                    refine (CountSpots_any W H L Ax cx u v p0 p1 _ hL10 hcx HL.out).mono ?_; rintro e wd ⟨rfl, hb⟩
                    have HX := hide (HX.out.ext hb)
                    have HP := hide (HP.out.ext hb)
                    have HN := hide (HN.out.ext hb)
                    have HA := hide (HA.out.ext hb)
                    have HL := hide (HL.out.ext hb)
                    have kE := hide (kE.out.trans hb)
                    have kO := hide (kO.out.trans hb)
                    have kI := hide (kI.out.trans hb)
                    clear hb
                    obtain ⟨sp, hsp⟩ : ∃ q, spots W H L ((u : Int), (v : Int)) (p0, p1) = q := ⟨_, rfl⟩
                    have K2 := K.2
                    rw [hsp] at K2 ⊢
                    have k3 : (sp == 0) = false := by simpa using K2
                    have k4 : decide (sp = 0) = false := decide_eq_false K2
                    clear K hsp
                    have zX : bX < wd.heap.size := HX.out.lt
                    have fX := HX.out.free
                    have cX0 : wd.cell? ⟨bX, 0, none⟩ = some (.int .i64 W) := (HX.out.cell 0).trans rfl
                    have cX1 : wd.cell? ⟨bX, 1, none⟩ = some (.int .i64 H) := (HX.out.cell 1).trans rfl
                    have cX2 : wd.cell? ⟨bX, 2, none⟩ = some (.slice Ax L.length cx) := (HX.out.cell 2).trans rfl
                    have zP : bP < wd.heap.size := HP.out.lt
                    have fP := HP.out.free
                    have cP0 : wd.cell? ⟨bP, 0, none⟩ = some (.int .i64 p0) := (HP.out.cell 0).trans rfl
                    have cP1 : wd.cell? ⟨bP, 1, none⟩ = some (.int .i64 p1) := (HP.out.cell 1).trans rfl
                    have zN : bN < wd.heap.size := HN.out.lt
                    have fN := HN.out.free
                    have cN0 : wd.cell? ⟨bN, 0, none⟩ = some (.int .i64 fa) := (HN.out.cell 0).trans rfl
                    have cN1 : wd.cell? ⟨bN, 1, none⟩ = some (.int .i64 (v : Int)) := (HN.out.cell 1).trans rfl
                    have zA : bA < wd.heap.size := HA.out.lt
                    have fA := HA.out.free
                    have cA0 : wd.cell? ⟨bA, 0, none⟩ = some (.int .i64 (u : Int)) := (HA.out.cell 0).trans rfl
                    have cA1 : wd.cell? ⟨bA, 1, none⟩ = some (.int .i64 (v : Int)) := (HA.out.cell 1).trans rfl
                    go_wp2_with fail
                    clear zX fX cX0 cX1 cX2 zP fP cP0 cP1 zN fN cN0 cN1 zA fA cA0 cA1
                    go_roundw
                    case rel => exact ⟨u + 1, by omega, by go_num, kI.out⟩
                    case measure => simp [intOf]; omega
                  · skip
                    have zX : bX < wr.heap.size := HX.out.lt
                    have fX := HX.out.free
                    have cX0 : wr.cell? ⟨bX, 0, none⟩ = some (.int .i64 W) := (HX.out.cell 0).trans rfl
                    have cX1 : wr.cell? ⟨bX, 1, none⟩ = some (.int .i64 H) := (HX.out.cell 1).trans rfl
                    have cX2 : wr.cell? ⟨bX, 2, none⟩ = some (.slice Ax L.length cx) := (HX.out.cell 2).trans rfl
                    have zP : bP < wr.heap.size := HP.out.lt
                    have fP := HP.out.free
                    have cP0 : wr.cell? ⟨bP, 0, none⟩ = some (.int .i64 p0) := (HP.out.cell 0).trans rfl
                    have cP1 : wr.cell? ⟨bP, 1, none⟩ = some (.int .i64 p1) := (HP.out.cell 1).trans rfl
                    have zN : bN < wr.heap.size := HN.out.lt
                    have fN := HN.out.free
                    have cN0 : wr.cell? ⟨bN, 0, none⟩ = some (.int .i64 fa) := (HN.out.cell 0).trans rfl
                    have cN1 : wr.cell? ⟨bN, 1, none⟩ = some (.int .i64 (v : Int)) := (HN.out.cell 1).trans rfl
                    go_wp2_with fail
                    clear zX fX cX0 cX1 cX2 zP fP cP0 cP1 zN fN cN0 cN1
                    obtain ⟨bA, hbw⟩ : ∃ q, q = wr.heap.size := ⟨_, rfl⟩
                    obtain ⟨wa, hw⟩ : ∃ q, q = wr.alloc (Obj.cells #[.int .i64 (u : Int), .int .i64 (v : Int)] 32) := ⟨_, rfl⟩
                    have HX := hide (show Blk wa _ _ _ by rw [hw]; exact HX.out.ext ((Ext.refl _).alloc _))
                    have HP := hide (show Blk wa _ _ _ by rw [hw]; exact HP.out.ext ((Ext.refl _).alloc _))
                    have HN := hide (show Blk wa _ _ _ by rw [hw]; exact HN.out.ext ((Ext.refl _).alloc _))
                    have HA := hide (show Blk wa bA 32 [.int .i64 (u : Int), .int .i64 (v : Int)] by rw [hw, hbw]; exact Blk.new _ _ _)
                    have HL := hide (show Rds wa _ _ _ _ by rw [hw]; exact HL.out.ext ((Ext.refl _).alloc _))
                    have kE := hide (show Ext _ wa by rw [hw]; exact kE.out.alloc _)
                    have kO := hide (show Ext _ wa by rw [hw]; exact kO.out.alloc _)
                    have kI := hide (show Ext _ wa by rw [hw]; exact kI.out.alloc _)
                    rw [← hw]
                    (try rw [← hbw])
                    clear hw hbw
                    go_roundw
                    case rel => exact ⟨u + 1, by omega, by go_num, kI.out⟩
                    case measure => simp [intOf]; omega
                · have b3 : ((v : Int) == fb) = false := by simpa using b2
                  have zX : bX < wr.heap.size := HX.out.lt
                  have fX := HX.out.free
                  have cX0 : wr.cell? ⟨bX, 0, none⟩ = some (.int .i64 W) := (HX.out.cell 0).trans rfl
                  have cX1 : wr.cell? ⟨bX, 1, none⟩ = some (.int .i64 H) := (HX.out.cell 1).trans rfl
                  have cX2 : wr.cell? ⟨bX, 2, none⟩ = some (.slice Ax L.length cx) := (HX.out.cell 2).trans rfl
                  have zP : bP < wr.heap.size := HP.out.lt
                  have fP := HP.out.free
                  have cP0 : wr.cell? ⟨bP, 0, none⟩ = some (.int .i64 p0) := (HP.out.cell 0).trans rfl
                  have cP1 : wr.cell? ⟨bP, 1, none⟩ = some (.int .i64 p1) := (HP.out.cell 1).trans rfl
                  have zN : bN < wr.heap.size := HN.out.lt
                  have fN := HN.out.free
                  have cN0 : wr.cell? ⟨bN, 0, none⟩ = some (.int .i64 fa) := (HN.out.cell 0).trans rfl
                  have cN1 : wr.cell? ⟨bN, 1, none⟩ = some (.int .i64 fb) := (HN.out.cell 1).trans rfl
                  go_wp2_with fail
                  clear zX fX cX0 cX1 cX2 zP fP cP0 cP1 zN fN cN0 cN1
                  obtain ⟨bA, hbw⟩ : ∃ q, q = wr.heap.size := ⟨_, rfl⟩
                  obtain ⟨wa, hw⟩ : ∃ q, q = wr.alloc (Obj.cells #[.int .i64 (u : Int), .int .i64 (v : Int)] 32) := ⟨_, rfl⟩
                  have HX := hide (show Blk wa _ _ _ by rw [hw]; exact HX.out.ext ((Ext.refl _).alloc _))
                  have HP := hide (show Blk wa _ _ _ by rw [hw]; exact HP.out.ext ((Ext.refl _).alloc _))
                  have HN := hide (show Blk wa _ _ _ by rw [hw]; exact HN.out.ext ((Ext.refl _).alloc _))
                  have HA := hide (show Blk wa bA 32 [.int .i64 (u : Int), .int .i64 (v : Int)] by rw [hw, hbw]; exact Blk.new _ _ _)
                  have HL := hide (show Rds wa _ _ _ _ by rw [hw]; exact HL.out.ext ((Ext.refl _).alloc _))
                  have kE := hide (show Ext _ wa by rw [hw]; exact kE.out.alloc _)
                  have kO := hide (show Ext _ wa by rw [hw]; exact kO.out.alloc _)
                  have kI := hide (show Ext _ wa by rw [hw]; exact kI.out.alloc _)
                  rw [← hw]
                  (try rw [← hbw])
                  clear hw hbw
                  go_roundw
                  case rel => exact ⟨u + 1, by omega, by go_num, kI.out⟩
                  case measure => simp [intOf]; omega
            · skip
              have zX : bX < wr.heap.size := HX.out.lt
              have fX := HX.out.free
              have cX0 : wr.cell? ⟨bX, 0, none⟩ = some (.int .i64 W) := (HX.out.cell 0).trans rfl
              have cX1 : wr.cell? ⟨bX, 1, none⟩ = some (.int .i64 H) := (HX.out.cell 1).trans rfl
              have cX2 : wr.cell? ⟨bX, 2, none⟩ = some (.slice Ax L.length cx) := (HX.out.cell 2).trans rfl
              have zP : bP < wr.heap.size := HP.out.lt
              have fP := HP.out.free
              have cP0 : wr.cell? ⟨bP, 0, none⟩ = some (.int .i64 p0) := (HP.out.cell 0).trans rfl
              have cP1 : wr.cell? ⟨bP, 1, none⟩ = some (.int .i64 p1) := (HP.out.cell 1).trans rfl
              have zN : bN < wr.heap.size := HN.out.lt
              have fN := HN.out.free
              have cN0 : wr.cell? ⟨bN, 0, none⟩ = some (.int .i64 fa) := (HN.out.cell 0).trans rfl
              have cN1 : wr.cell? ⟨bN, 1, none⟩ = some (.int .i64 fb) := (HN.out.cell 1).trans rfl
              go_wp2_with fail
              go_roundw
              case rel => exact ⟨v + 1, by omega, by go_num, kO.out⟩
              case measure => simp [intOf]; omega
        · skip
          go_wp2_with fail
          obtain ⟨best, hbst⟩ := LC.ex W H L
          have HB := hide hbst
          clear hbst
          clear zX fX cX0 cX1 cX2 zP fP cP0 cP1 zN fN cN0 cN1
          refine (LargestClear_any W H L Ax cx best _ hL10 HL.out HB.out).mono ?_; rintro e y1 ⟨rfl, hb⟩
          have HX := hide (HX.out.ext hb)
          have HP := hide (HP.out.ext hb)
          have HN := hide (HN.out.ext hb)
          have HL := hide (HL.out.ext hb)
          have kE := hide (kE.out.trans hb)
          have kO := hide (kO.out.trans hb)
          clear hb
          skip
          have zX : bX < y1.heap.size := HX.out.lt
          have fX := HX.out.free
          have cX0 : y1.cell? ⟨bX, 0, none⟩ = some (.int .i64 W) := (HX.out.cell 0).trans rfl
          have cX1 : y1.cell? ⟨bX, 1, none⟩ = some (.int .i64 H) := (HX.out.cell 1).trans rfl
          have cX2 : y1.cell? ⟨bX, 2, none⟩ = some (.slice Ax L.length cx) := (HX.out.cell 2).trans rfl
          have zP : bP < y1.heap.size := HP.out.lt
          have fP := HP.out.free
          have cP0 : y1.cell? ⟨bP, 0, none⟩ = some (.int .i64 p0) := (HP.out.cell 0).trans rfl
          have cP1 : y1.cell? ⟨bP, 1, none⟩ = some (.int .i64 p1) := (HP.out.cell 1).trans rfl
          have zN : bN < y1.heap.size := HN.out.lt
          have fN := HN.out.free
          have cN0 : y1.cell? ⟨bN, 0, none⟩ = some (.int .i64 fa) := (HN.out.cell 0).trans rfl
          have cN1 : y1.cell? ⟨bN, 1, none⟩ = some (.int .i64 fb) := (HN.out.cell 1).trans rfl
          go_wp2_with fail
          have nX0 : ¬ bX = y1.heap.size := by omega
          have nX1 : ¬ y1.heap.size = bX := by omega
          have nX2 : ¬ bX = y1.heap.size + 1 := by omega
          have nX3 : ¬ y1.heap.size + 1 = bX := by omega
          have hW0 : ¬ W = 0 := by omega
          have hH0 : ¬ H = 0 := by omega
          go_region_held3 (fun w' => w'.cell? ⟨bX, 0, none⟩ = some (.int .i64 W) ∧ w'.cell? ⟨bX, 1, none⟩ = some (.int .i64 H) ∧ w'.cell? ⟨bX, 2, none⟩ = some (.slice Ax L.length cx)) (first | exact ⟨cX0, cX1, cX2⟩ | exact ⟨d0, d1, d2⟩ | exact ⟨e0, e1, e2⟩ | go_keep) ((first | (have hq2 := q2; go_at_call 6; refine (atx_any l A cc _ _ (by decide) (by decide) hm (HR.out.ext (Ext.trans kE.out (by repeat (first | exact kB | exact kA | exact Ext.refl _ | apply Ext.alloc | apply Ext.drewN | apply Ext.drew))))).mono ?_; rintro e w' ⟨q3, rfl, rfl⟩) | (go_at_call 6; refine (atx_any l A cc _ _ (by decide) (by decide) hm (HR.out.ext (Ext.trans kE.out (by repeat (first | exact kB | exact kA | exact Ext.refl _ | apply Ext.alloc | apply Ext.drewN | apply Ext.drew))))).mono ?_; rintro e w' ⟨q2, rfl, rfl⟩) | ((with_reducible refine app1_0 ?_ (.tmp 110) (.tmp 112) ?_ ?_ ?_ HL.out hnil hL10 ?_); (· rfl); (· rfl); (· rfl); (· rfl); intro v1 w1 hown1 kA; have nX4 : ¬ bX = w1.heap.size := (by have := kA.size; omega); have nX5 : ¬ w1.heap.size = bX := (by have := kA.size; omega); have nX6 : ¬ bX = w1.heap.size + 1 := (by have := kA.size; omega); have nX7 : ¬ w1.heap.size + 1 = bX := (by have := kA.size; omega); have d0 := (kA.facts.1 bX 0 zX).trans cX0; have d1 := (kA.facts.1 bX 1 zX).trans cX1; have d2 := (kA.facts.1 bX 2 zX).trans cX2) | ((with_reducible refine app1_1 ?_ (.tmp 110) (.tmp 112) ?_ ?_ ?_ HL.out hnil hL10 ?_); (· rfl); (· rfl); (· rfl); (· rfl); intro v1 w1 hown1 kA sY; have nX4 : ¬ bX = w1.heap.size := (by have := kA.size; omega); have nX5 : ¬ w1.heap.size = bX := (by have := kA.size; omega); have nX6 : ¬ bX = w1.heap.size + 1 := (by have := kA.size; omega); have nX7 : ¬ w1.heap.size + 1 = bX := (by have := kA.size; omega); have d0 := (kA.facts.1 bX 0 zX).trans cX0; have d1 := (kA.facts.1 bX 1 zX).trans cX1; have d2 := (kA.facts.1 bX 2 zX).trans cX2) | ((with_reducible refine app1_2 ?_ (.tmp 110) (.tmp 112) ?_ ?_ ?_ HL.out hnil hL10 ?_); (· rfl); (· rfl); (· rfl); (· rfl); intro v1 w1 hown1 kA sY; have nX4 : ¬ bX = w1.heap.size := (by have := kA.size; omega); have nX5 : ¬ w1.heap.size = bX := (by have := kA.size; omega); have nX6 : ¬ bX = w1.heap.size + 1 := (by have := kA.size; omega); have nX7 : ¬ w1.heap.size + 1 = bX := (by have := kA.size; omega); have d0 := (kA.facts.1 bX 0 zX).trans cX0; have d1 := (kA.facts.1 bX 1 zX).trans cX1; have d2 := (kA.facts.1 bX 2 zX).trans cX2) | ((with_reducible refine app2_0 ?_ (.tmp 113) (.tmp 127) ?_ ?_ ?_ hown1 kA hL10 ?_); (· rfl); (· rfl); (· rfl); (· rfl); intro A2 c2 X w2 hX hown2 kB hB; have e0 := (kB.facts.1 bX 0 zX).trans cX0; have e1 := (kB.facts.1 bX 1 zX).trans cX1; have e2 := (kB.facts.1 bX 2 zX).trans cX2; (try (have sZ := hB _ _ sY; have s0 : w2.cell? ⟨_, 0, none⟩ = some (.int .i64 0) := (sZ.cell 0).trans rfl; have s1 : w2.cell? ⟨_, 1, none⟩ = some (.int .i64 0) := (sZ.cell 1).trans rfl; have s2 : w2.cell? ⟨_, 2, none⟩ = some (.slice none 0 0) := (sZ.cell 2).trans rfl; have s3 := sZ.free; have s4 := sZ.lt))) | ((with_reducible refine app2_1 ?_ (.tmp 113) (.tmp 127) ?_ ?_ ?_ hown1 kA hL10 ?_); (· rfl); (· rfl); (· rfl); (· rfl); intro A2 c2 X w2 hX hown2 kB sZ; have e0 := (kB.facts.1 bX 0 zX).trans cX0; have e1 := (kB.facts.1 bX 1 zX).trans cX1; have e2 := (kB.facts.1 bX 2 zX).trans cX2; have s0 : w2.cell? ⟨_, 0, none⟩ = some (.int .i64 0) := (sZ.cell 0).trans rfl; have s1 : w2.cell? ⟨_, 1, none⟩ = some (.int .i64 0) := (sZ.cell 1).trans rfl; have s2 : w2.cell? ⟨_, 2, none⟩ = some (.slice none 0 0) := (sZ.cell 2).trans rfl; have s3 := sZ.free; have s4 := sZ.lt) | ((with_reducible refine app2_2 ?_ (.tmp 113) (.tmp 127) ?_ ?_ ?_ hown1 kA hL10 ?_); (· rfl); (· rfl); (· rfl); (· rfl); intro A2 c2 X w2 hX hown2 kB sZ; have e0 := (kB.facts.1 bX 0 zX).trans cX0; have e1 := (kB.facts.1 bX 1 zX).trans cX1; have e2 := (kB.facts.1 bX 2 zX).trans cX2; have s0 : w2.cell? ⟨_, 0, none⟩ = some (.int .i64 0) := (sZ.cell 0).trans rfl; have s1 : w2.cell? ⟨_, 1, none⟩ = some (.int .i64 0) := (sZ.cell 1).trans rfl; have s2 : w2.cell? ⟨_, 2, none⟩ = some (.slice none 0 0) := (sZ.cell 2).trans rfl; have s3 := sZ.free; have s4 := sZ.lt) | fail))
          all_goals
            clear nX0 nX1 nX2 nX3 nX4 nX5 nX6 nX7 hW0 hH0 d0 d1 d2 e0 e1 e2
            clear zX fX cX0 cX1 cX2 zP fP cP0 cP1 zN fN cN0 cN1
            first
            | (obtain ⟨wz, hz⟩ : ∃ q, q = w2.alloc (Obj.cells #[Value.int IntKind.i64 W, Value.int IntKind.i64 H, Value.slice A2 X.length c2] 28) := ⟨_, rfl⟩; obtain ⟨bY, hy⟩ : ∃ q, q = w2.heap.size := ⟨_, rfl⟩; rw [← hz, ← hy]; have HY := hide (show Blk wz bY 28 [.int .i64 W, .int .i64 H, .slice A2 X.length c2] by rw [hz, hy]; exact Blk.new _ _ _); have HZ := hide (show R2 wz A2 X by rw [hz]; exact (Rds.of_own hown2).alloc _); have hB : Ext y1 wz := (by rw [hz]; exact kB.alloc _))
            | (have hsz : Blk w2 y1.heap.size 28 BoxL := (by with_reducible exact sZ); have hle : y1.heap.size ≤ y1.heap.size := (by have := kA.size; omega); obtain ⟨wz, hz⟩ : ∃ q, q = ((w2.setCell ⟨y1.heap.size, 0, none⟩ (Value.int IntKind.i64 W)).setCell ⟨y1.heap.size, 1, none⟩ (Value.int IntKind.i64 H)).setCell ⟨y1.heap.size, 2, none⟩ (Value.slice A2 X.length c2) := ⟨_, rfl⟩; rw [← hz]; have HZ := hide (show R2 wz A2 X by rw [hz]; exact Rds.of_own (own_put3 hown2 hsz (by decide) _ _ _)); have hB : Ext y1 wz := (by rw [hz]; exact Ext.setk (Ext.setk (Ext.setk kB hle _) hle _) hle _); have hY : Blk wz y1.heap.size 28 [.int .i64 W, .int .i64 H, .slice A2 X.length c2] := (by rw [hz]; exact ((hsz.set 0 _).set 1 _).set 2 _); clear hz; obtain ⟨bY, hy⟩ : ∃ q, q = y1.heap.size := ⟨_, rfl⟩; rw [← hy] at hY ⊢; have HY := hide hY; clear hY hsz hle s0 s1 s2 s3 s4 sZ)
            | (have hsz : Blk w2 (y1.heap.size + 1) 28 BoxL := (by with_reducible exact sZ); have hle : y1.heap.size ≤ (y1.heap.size + 1) := (by have := kA.size; omega); obtain ⟨wz, hz⟩ : ∃ q, q = ((w2.setCell ⟨(y1.heap.size + 1), 0, none⟩ (Value.int IntKind.i64 W)).setCell ⟨(y1.heap.size + 1), 1, none⟩ (Value.int IntKind.i64 H)).setCell ⟨(y1.heap.size + 1), 2, none⟩ (Value.slice A2 X.length c2) := ⟨_, rfl⟩; rw [← hz]; have HZ := hide (show R2 wz A2 X by rw [hz]; exact Rds.of_own (own_put3 hown2 hsz (by decide) _ _ _)); have hB : Ext y1 wz := (by rw [hz]; exact Ext.setk (Ext.setk (Ext.setk kB hle _) hle _) hle _); have hY : Blk wz (y1.heap.size + 1) 28 [.int .i64 W, .int .i64 H, .slice A2 X.length c2] := (by rw [hz]; exact ((hsz.set 0 _).set 1 _).set 2 _); clear hz; obtain ⟨bY, hy⟩ : ∃ q, q = (y1.heap.size + 1) := ⟨_, rfl⟩; rw [← hy] at hY ⊢; have HY := hide hY; clear hY hsz hle s0 s1 s2 s3 s4 sZ)
            | (have hsz : Blk w2 w1.heap.size 28 BoxL := (by with_reducible exact sZ); have hle : y1.heap.size ≤ w1.heap.size := (by have := kA.size; omega); obtain ⟨wz, hz⟩ : ∃ q, q = ((w2.setCell ⟨w1.heap.size, 0, none⟩ (Value.int IntKind.i64 W)).setCell ⟨w1.heap.size, 1, none⟩ (Value.int IntKind.i64 H)).setCell ⟨w1.heap.size, 2, none⟩ (Value.slice A2 X.length c2) := ⟨_, rfl⟩; rw [← hz]; have HZ := hide (show R2 wz A2 X by rw [hz]; exact Rds.of_own (own_put3 hown2 hsz (by decide) _ _ _)); have hB : Ext y1 wz := (by rw [hz]; exact Ext.setk (Ext.setk (Ext.setk kB hle _) hle _) hle _); have hY : Blk wz w1.heap.size 28 [.int .i64 W, .int .i64 H, .slice A2 X.length c2] := (by rw [hz]; exact ((hsz.set 0 _).set 1 _).set 2 _); clear hz; obtain ⟨bY, hy⟩ : ∃ q, q = w1.heap.size := ⟨_, rfl⟩; rw [← hy] at hY ⊢; have HY := hide hY; clear hY hsz hle s0 s1 s2 s3 s4 sZ)
            | (have hsz : Blk w2 (w1.heap.size + 1) 28 BoxL := (by with_reducible exact sZ); have hle : y1.heap.size ≤ (w1.heap.size + 1) := (by have := kA.size; omega); obtain ⟨wz, hz⟩ : ∃ q, q = ((w2.setCell ⟨(w1.heap.size + 1), 0, none⟩ (Value.int IntKind.i64 W)).setCell ⟨(w1.heap.size + 1), 1, none⟩ (Value.int IntKind.i64 H)).setCell ⟨(w1.heap.size + 1), 2, none⟩ (Value.slice A2 X.length c2) := ⟨_, rfl⟩; rw [← hz]; have HZ := hide (show R2 wz A2 X by rw [hz]; exact Rds.of_own (own_put3 hown2 hsz (by decide) _ _ _)); have hB : Ext y1 wz := (by rw [hz]; exact Ext.setk (Ext.setk (Ext.setk kB hle _) hle _) hle _); have hY : Blk wz (w1.heap.size + 1) 28 [.int .i64 W, .int .i64 H, .slice A2 X.length c2] := (by rw [hz]; exact ((hsz.set 0 _).set 1 _).set 2 _); clear hz; obtain ⟨bY, hy⟩ : ∃ q, q = (w1.heap.size + 1) := ⟨_, rfl⟩; rw [← hy] at hY ⊢; have HY := hide hY; clear hY hsz hle s0 s1 s2 s3 s4 sZ)
            (try clear hz)
            (try clear sY)
            (try clear hB_)
            clear hy kB hown1 hown2 kA
            have HX := hide (HX.out.ext hB)
            have HP := hide (HP.out.ext hB)
            have HN := hide (HN.out.ext hB)
            have HL := hide (HL.out.ext hB)
            have kE := hide (kE.out.trans hB)
            have kO := hide (kO.out.trans hB)
            clear hB
            have hWH : 1 ≤ W * H := Int.mul_pos (by omega) (by omega)
            have hWH2 : W * H ≤ 8 * 8 := Int.mul_le_mul bW.2 bH.2 (by omega) (by omega)
            have zX : bX < wz.heap.size := HX.out.lt
            have fX := HX.out.free
            have cX0 : wz.cell? ⟨bX, 0, none⟩ = some (.int .i64 W) := (HX.out.cell 0).trans rfl
            have cX1 : wz.cell? ⟨bX, 1, none⟩ = some (.int .i64 H) := (HX.out.cell 1).trans rfl
            have cX2 : wz.cell? ⟨bX, 2, none⟩ = some (.slice Ax L.length cx) := (HX.out.cell 2).trans rfl
            have zP : bP < wz.heap.size := HP.out.lt
            have fP := HP.out.free
            have cP0 : wz.cell? ⟨bP, 0, none⟩ = some (.int .i64 p0) := (HP.out.cell 0).trans rfl
            have cP1 : wz.cell? ⟨bP, 1, none⟩ = some (.int .i64 p1) := (HP.out.cell 1).trans rfl
            have zN : bN < wz.heap.size := HN.out.lt
            have fN := HN.out.free
            have cN0 : wz.cell? ⟨bN, 0, none⟩ = some (.int .i64 fa) := (HN.out.cell 0).trans rfl
            have cN1 : wz.cell? ⟨bN, 1, none⟩ = some (.int .i64 fb) := (HN.out.cell 1).trans rfl
            have zY : bY < wz.heap.size := HY.out.lt
            have fY := HY.out.free
            have cY0 : wz.cell? ⟨bY, 0, none⟩ = some (.int .i64 W) := (HY.out.cell 0).trans rfl
            have cY1 : wz.cell? ⟨bY, 1, none⟩ = some (.int .i64 H) := (HY.out.cell 1).trans rfl
            have cY2 : wz.cell? ⟨bY, 2, none⟩ = some (.slice A2 X.length c2) := (HY.out.cell 2).trans rfl
            go_wp2_with fail
            clear zX fX cX0 cX1 cX2 zP fP cP0 cP1 zN fN cN0 cN1 zY fY cY0 cY1 cY2
            refine (CountSpots_any W H L Ax cx 0 0 W H _ hL10 hcx HL.out).mono ?_; rintro e wa ⟨rfl, hb⟩
            have HX := hide (HX.out.ext hb)
            have HP := hide (HP.out.ext hb)
            have HN := hide (HN.out.ext hb)
            have HY := hide (HY.out.ext hb)
            have HL := hide (HL.out.ext hb)
            have HZ := hide (HZ.out.ext hb)
            have kE := hide (kE.out.trans hb)
            have kO := hide (kO.out.trans hb)
            clear hb
            have zX : bX < wa.heap.size := HX.out.lt
            have fX := HX.out.free
            have cX0 : wa.cell? ⟨bX, 0, none⟩ = some (.int .i64 W) := (HX.out.cell 0).trans rfl
            have cX1 : wa.cell? ⟨bX, 1, none⟩ = some (.int .i64 H) := (HX.out.cell 1).trans rfl
            have cX2 : wa.cell? ⟨bX, 2, none⟩ = some (.slice Ax L.length cx) := (HX.out.cell 2).trans rfl
            have zP : bP < wa.heap.size := HP.out.lt
            have fP := HP.out.free
            have cP0 : wa.cell? ⟨bP, 0, none⟩ = some (.int .i64 p0) := (HP.out.cell 0).trans rfl
            have cP1 : wa.cell? ⟨bP, 1, none⟩ = some (.int .i64 p1) := (HP.out.cell 1).trans rfl
            have zN : bN < wa.heap.size := HN.out.lt
            have fN := HN.out.free
            have cN0 : wa.cell? ⟨bN, 0, none⟩ = some (.int .i64 fa) := (HN.out.cell 0).trans rfl
            have cN1 : wa.cell? ⟨bN, 1, none⟩ = some (.int .i64 fb) := (HN.out.cell 1).trans rfl
            have zY : bY < wa.heap.size := HY.out.lt
            have fY := HY.out.free
            have cY0 : wa.cell? ⟨bY, 0, none⟩ = some (.int .i64 W) := (HY.out.cell 0).trans rfl
            have cY1 : wa.cell? ⟨bY, 1, none⟩ = some (.int .i64 H) := (HY.out.cell 1).trans rfl
            have cY2 : wa.cell? ⟨bY, 2, none⟩ = some (.slice A2 X.length c2) := (HY.out.cell 2).trans rfl
            go_wp2_with fail
            clear zX fX cX0 cX1 cX2 zP fP cP0 cP1 zN fN cN0 cN1 zY fY cY0 cY1 cY2
            refine (FlawedOk_any W H L Ax cx _ hL10 HL.out).mono ?_; rintro e wb ⟨rfl, hb⟩
            have HX := hide (HX.out.ext hb)
            have HP := hide (HP.out.ext hb)
            have HN := hide (HN.out.ext hb)
            have HY := hide (HY.out.ext hb)
            have HL := hide (HL.out.ext hb)
            have HZ := hide (HZ.out.ext hb)
            have kE := hide (kE.out.trans hb)
            have kO := hide (kO.out.trans hb)
            clear hb
            rw [HF.out.ok]
            obtain ⟨best2, hb2⟩ := LC.ex W H X
            have HB2 := hide hb2
            clear hb2
            have hXl : X.length ≤ 1048576 := by rw [hX.out]; simp; omega
            have F := flaws_law HF.out hp HV.out HB.out (q := (q2.tmod W, q3.tmod H)) (hX.out ▸ HB2.out)
            obtain ⟨sp, hsp⟩ : ∃ q, q = spots W H L (0, 0) (W, H) := ⟨_, rfl⟩
            rw [← hsp] at F ⊢
            clear hsp
            obtain ⟨g1, g2, g3, g4, g5, g6⟩ := F
            obtain ⟨ba, hba⟩ : ∃ b, b = decide ((L.length : Int) = 0) := ⟨_, rfl⟩
            have j1 : decide ((L.length : Int) = 0) = ba := hba.symm
            have j2 : ((L.length : Int) == 0) = ba := by rw [hba]; rfl
            have j3 : decide (best = W * H) = ba := by rw [hba]; exact decide_eq_decide.2 g3
            have j4 : (best == W * H) = ba := by rw [← j3]; rfl
            have j5 : decide (sp = 0) = ba := by rw [hba]; exact decide_eq_decide.2 g6
            have j6 : (sp == 0) = ba := by rw [← j5]; rfl
            have g7 : decide (best ≤ W * H) = true := decide_eq_true g1
            have g8 : decide (best2 ≤ best) = true := decide_eq_true g2
            have g9 : decide (sp ≤ (L.length : Int)) = true := decide_eq_true g5
            have hpp : 1 ≤ p0 * p1 := Int.mul_pos (by omega) (by omega)
            have hpp2 : p0 * p1 ≤ 4 * 4 := Int.mul_le_mul hp.2.1 hp.2.2.2 (by omega) (by omega)
            have g10 : decide (p0 * p1 ≤ best) = true := decide_eq_true (g4 rfl)
            have g11 : p0 * p1 ≤ best := g4 rfl
            clear hba g3 g6 g4
            have zX : bX < wb.heap.size := HX.out.lt
            have fX := HX.out.free
            have cX0 : wb.cell? ⟨bX, 0, none⟩ = some (.int .i64 W) := (HX.out.cell 0).trans rfl
            have cX1 : wb.cell? ⟨bX, 1, none⟩ = some (.int .i64 H) := (HX.out.cell 1).trans rfl
            have cX2 : wb.cell? ⟨bX, 2, none⟩ = some (.slice Ax L.length cx) := (HX.out.cell 2).trans rfl
            have zP : bP < wb.heap.size := HP.out.lt
            have fP := HP.out.free
            have cP0 : wb.cell? ⟨bP, 0, none⟩ = some (.int .i64 p0) := (HP.out.cell 0).trans rfl
            have cP1 : wb.cell? ⟨bP, 1, none⟩ = some (.int .i64 p1) := (HP.out.cell 1).trans rfl
            have zN : bN < wb.heap.size := HN.out.lt
            have fN := HN.out.free
            have cN0 : wb.cell? ⟨bN, 0, none⟩ = some (.int .i64 fa) := (HN.out.cell 0).trans rfl
            have cN1 : wb.cell? ⟨bN, 1, none⟩ = some (.int .i64 fb) := (HN.out.cell 1).trans rfl
            have zY : bY < wb.heap.size := HY.out.lt
            have fY := HY.out.free
            have cY0 : wb.cell? ⟨bY, 0, none⟩ = some (.int .i64 W) := (HY.out.cell 0).trans rfl
            have cY1 : wb.cell? ⟨bY, 1, none⟩ = some (.int .i64 H) := (HY.out.cell 1).trans rfl
            have cY2 : wb.cell? ⟨bY, 2, none⟩ = some (.slice A2 X.length c2) := (HY.out.cell 2).trans rfl
            go_wp2_with fail
            clear zX fX cX0 cX1 cX2 zP fP cP0 cP1 zN fN cN0 cN1 zY fY cY0 cY1 cY2
            refine (LargestClear_any W H X A2 c2 best2 _ hXl HZ.out HB2.out).mono ?_; rintro e wc ⟨rfl, hb⟩
            have HX := hide (HX.out.ext hb)
            have HP := hide (HP.out.ext hb)
            have HN := hide (HN.out.ext hb)
            have HY := hide (HY.out.ext hb)
            have HL := hide (HL.out.ext hb)
            have HZ := hide (HZ.out.ext hb)
            have kE := hide (kE.out.trans hb)
            have kO := hide (kO.out.trans hb)
            clear hb
            have zX : bX < wc.heap.size := HX.out.lt
            have fX := HX.out.free
            have cX0 : wc.cell? ⟨bX, 0, none⟩ = some (.int .i64 W) := (HX.out.cell 0).trans rfl
            have cX1 : wc.cell? ⟨bX, 1, none⟩ = some (.int .i64 H) := (HX.out.cell 1).trans rfl
            have cX2 : wc.cell? ⟨bX, 2, none⟩ = some (.slice Ax L.length cx) := (HX.out.cell 2).trans rfl
            have zP : bP < wc.heap.size := HP.out.lt
            have fP := HP.out.free
            have cP0 : wc.cell? ⟨bP, 0, none⟩ = some (.int .i64 p0) := (HP.out.cell 0).trans rfl
            have cP1 : wc.cell? ⟨bP, 1, none⟩ = some (.int .i64 p1) := (HP.out.cell 1).trans rfl
            have zN : bN < wc.heap.size := HN.out.lt
            have fN := HN.out.free
            have cN0 : wc.cell? ⟨bN, 0, none⟩ = some (.int .i64 fa) := (HN.out.cell 0).trans rfl
            have cN1 : wc.cell? ⟨bN, 1, none⟩ = some (.int .i64 fb) := (HN.out.cell 1).trans rfl
            have zY : bY < wc.heap.size := HY.out.lt
            have fY := HY.out.free
            have cY0 : wc.cell? ⟨bY, 0, none⟩ = some (.int .i64 W) := (HY.out.cell 0).trans rfl
            have cY1 : wc.cell? ⟨bY, 1, none⟩ = some (.int .i64 H) := (HY.out.cell 1).trans rfl
            have cY2 : wc.cell? ⟨bY, 2, none⟩ = some (.slice A2 X.length c2) := (HY.out.cell 2).trans rfl
            go_wp2_with fail
            clear zX fX cX0 cX1 cX2 zP fP cP0 cP1 zN fN cN0 cN1 zY fY cY0 cY1 cY2
            go_ret
            exact ⟨rfl, kE.out⟩
end Go.Proofs.Ytgaeafjmofbkbaa
