/- The walks of the reference's drawn shape. No condition but that the bytes are at most 1048576. -/
import Derived.Test.YtabgcpoaepafjaaWinH
import Derived.Test.YtabgcpoaepafjaaShapQ
import Derived.Test.YtabgcpoaepafjaaPlaces
set_option linter.unusedSimpArgs false
set_option linter.unusedVariables false
namespace Go.Proofs.Ytabgcpoaepafjaa
open Go.RowKit

/-- A drawn shape: normal, with an area. -/
structure DS (S : List P2) : Prop where
  ns : NS S
  ar : 0 < arS S
  len : S.length ≤ 40
  ok : ∀ p ∈ S, nodeOk p = true
theorem DS.of {S : List P2} (h : NS S) (k : 0 < arS S) (l : S.length ≤ 40) : DS S := ⟨h, k, l, fun p hp => by
  obtain ⟨i, hi, rfl⟩ := List.getElem_of_mem hp
  have := Shp.nodesOkB_at h.ok hi
  exact nodeOk_iff.2 ⟨⟨this.1, this.2.1⟩, this.2.2⟩⟩
theorem ds_three : DS [(0, 0), (3, 1), (0, 2)] := DS.of ⟨by decide, Nd.of_nodup (by decide) (by decide), by decide, by decide +kernel⟩ (by decide +kernel) (by decide)
theorem ds_pane {N E : List P2} (h : wholeB N E = true) {k : Nat} (hk : k < (pansN N E).length) : DS (shapeV N E ((pansN N E)[k] : Nat)) := by
  obtain ⟨h1, h2⟩ := pansN_mem hk
  obtain ⟨a, b, _⟩ := pane_shape h h1 h2
  exact DS.of a b shapeV_len
theorem own_gx {g base n sz : Nat} {l : List Int} {w w' : World} {T : TypeId} {v : Value} {xs : List Value} (h : w.ownsRow base T sz v n xs) (hg : Gx g l w w') (hb : g < base) : w'.ownsRow base T sz v n xs :=
  h.kept hg.gr (.inr fun e => by have := (h.lt g e).1; omega)
set_option maxRecDepth 20000 in
set_option maxHeartbeats 8000000 in
theorem l18Shape_any (g : Nat) (l : List Int) (w : World) (hl : l.length ≤ 1048576) (hc : Cur w g l) :
    Calls Try.prog 66 #[.pointer (some ⟨g, 0, none⟩)] w fun e w' => ∃ S A c, e = .returned (.slice A S.length c) ∧ DS S ∧ w'.ownsRow w.heap.size 50 2 (.slice A S.length c) S.length (enc2 S) ∧ Gx g l w w' := by
  have HC := hide hc
  have hgl := hc.lt
  clear hc
  
  go_enter Try.func66, Try.ntmps66
  go_wp2_with fail
  refine (l07Whole_any g l _ hl HC.out).mono ?_
  rintro e w2 ⟨N, E, A, B, c, c', rfl, ⟨hwh, hn5, hn13, he8⟩, hwn, hgx⟩
  have HN2 := hide hwn
  have HG2 := hide hgx
  have hz2 := hgx.size
  clear hwn hgx
  go_wp2_with fail
  obtain ⟨w3, hw3⟩ : ∃ w3, w3 = w2.alloc (Obj.cells #[Value.slice A N.length c, Value.slice B E.length c'] 27) := ⟨_, rfl⟩
  have kz0 : w2.heap.size < w3.heap.size := by rw [hw3]; simp
  have kf0 : ∀ i, w3.frozen? ⟨w2.heap.size, i, none⟩ = false := by intro i; rw [hw3]; simp [go_sem]
  have kc0_0 : w3.cell? ⟨w2.heap.size, 0, none⟩ = some (.slice A N.length c) := by rw [hw3]; simp [go_sem]
  have kc0_1 : w3.cell? ⟨w2.heap.size, 1, none⟩ = some (.slice B E.length c') := by rw [hw3]; simp [go_sem]
  have hE3 : Ext w2 w3 := by rw [hw3]; exact (Ext.refl _).alloc _
  rw [← hw3]
  have HN3 := hide (HN2.out.ext hE3)
  have HG3 := hide (HG2.out.trans (Gx.ext HG2.out.cur hE3))
  obtain ⟨b3, hb3e⟩ : ∃ b, b = w2.heap.size := ⟨_, rfl⟩
  rw [← hb3e] at kz0 kf0 kc0_0 kc0_1 hz2 ⊢
  clear HN2 HG2 hw3 hE3 hb3e
  refine (sPanesOf_any N E A B c c' _ (HN3.out.wr (by omega) (by omega))).mono ?_
  rintro e w4 ⟨A4, c4, rfl, ho, hb⟩
  have HP4 := hide ho
  have HN4 := hide (HN3.out.ext hb)
  have HG4 := hide (HG3.out.trans (Gx.ext HG3.out.cur hb))
  have hz4 := hb.size
  have hf4 := hb.facts
  have kc0 := (hf4.1 b3 0 kz0).trans kc0_0
  have kc1 := (hf4.1 b3 1 kz0).trans kc0_1
  have kf := fun i => (hf4.2.1 b3 i kz0).trans (kf0 i)
  have kz := hf4.2.2 b3 kz0
  clear ho hb HN3 HG3 kc0_0 kc0_1 kf0 hf4
  have hp40 := pansN_len N E
  have HDP := hide (fun (k : Nat) (hk : k < (pansN N E).length) => ds_pane hwh hk)
  obtain ⟨P, hP⟩ : ∃ P, pansN N E = P := ⟨_, rfl⟩
  rw [hP] at HP4 hp40 HDP ⊢
  clear hP
  by_cases h0 : P.length = 0
  · go_wp2_with fail
    go_ret
    have HT := World.ownsRow_lit (base := w.heap.size) (e := 50) (size := 2) w4 #[Value.int .i64 0, Value.int .i64 0, Value.int .i64 3, Value.int .i64 1, Value.int .i64 0, Value.int .i64 2] 3 (by omega) (by unfold maxLen; omega) (by simp)
    exact ⟨[(0, 0), (3, 1), (0, 2)], _, _, rfl, ds_three, HT, HG4.out.trans (Gx.ext HG4.out.cur ((Ext.refl _).alloc _))⟩
  · have h0' : 0 < P.length := by omega
    have HC4 := hide HG4.out.cur
    have hgb3 : ¬ b3 = g := by omega
    have HRP := hide (Rds.of_own HP4.out)
    go_upto_region 5 with fail
    apply wp_region_GRL (K := Gx g l) 9 25 (by kernel_rfl) (Gx.drew HC4.out) (fun h1 h2 => h1.trans h2) (by kernel_rfl) (by kernel_rfl) (by kernel_rfl) (by kernel_rfl) (by kernel_rfl) rfl [fun v _ => v = _, fun v _ => v = .slice A4 P.length c4, fun v _ => v = _, fun v _ => v = _, fun v _ => v = _, fun v _ => ∃ x : Nat, v = .int .i64 (x : Int) ∧ x < P.length, fun v _ => ∃ (x : Nat) (q o : Nat), v = .pointer (some ⟨q, o + x, none⟩) ∧ x < P.length ∧ A4 = some ⟨q, o, none⟩, fun v _ => ∃ (x : Nat) (hx : x < P.length), v = .int .i64 ((P[x] : Nat) : Int), fun v w' => ∃ (S : List P2) (A : Option Addr) (c : Nat), v = .slice A S.length c ∧ DS S ∧ w'.ownsRow w4.heap.size 50 2 (.slice A S.length c) S.length (enc2 S)] rfl ⟨stabk_eq _ _, stabk_eq _ _, stabk_eq _ _, stabk_eq _ _, stabk_eq _ _, stabk_any _ _, stabk_any _ _, stabk_any _ _, (fun v W W' ⟨S, A, c, h1, h2, h3⟩ hG => ⟨S, A, c, h1, h2, own_gx h3 hG (by omega)⟩), trivial⟩ ?R5hop ?R5fin
    case R5hop =>
      intro a w' hE hA
      have c0 := hE.cell kz (by omega) kc0
      have c1 := hE.cell kz (by omega) kc1
      have f0 := hE.frz kz (by omega) kf
      have z0 : b3 < w'.heap.size := Nat.lt_of_lt_of_le kz hE.size
      have hcu := hide hE.cur
      have HPP := hide (own_gx HP4.out hE (by omega))
      have HE := hide hE
      refine ⟨⟨⟨⟨⟨⟨⟨⟨⟨trivial, ?_⟩, ?_⟩, ?_⟩, ?_⟩, ?_⟩, ?_⟩, ?_⟩, ?_⟩, ?_⟩
      · intro hp
        have s3 := hA 3 (by rfl)
        simp [sl] at s3
        clear hp
        refine wpOp_of_list rfl rfl ?_
        go_wp2_with (fail)
        exact ⟨_, rfl, rfl, Gx.refl hcu.out⟩
      · intro hp
        have s4 := hA 4 (by rfl)
        simp [sl] at s4
        clear hp
        refine wpOp_of_list rfl rfl ?_
        go_wp2_with (fail)
        exact ⟨_, rfl, rfl, Gx.refl hcu.out⟩
      · intro hp
        have s0 := hA 0 (by rfl)
        simp [sl] at s0
        clear hp
        refine wpOp_of_list rfl rfl ?_
        go_wp2_with (fail)
        exact ⟨_, rfl, rfl, Gx.refl hcu.out⟩
      · intro hp
        have s4 := hA 4 (by rfl)
        simp [sl] at s4
        clear hp
        refine wpOp_of_list rfl rfl ?_
        go_wp2_with (fail)
        exact ⟨_, rfl, rfl, Gx.refl hcu.out⟩
      · intro hp
        have s19 := hp 3 (by rfl)
        change a.tmps.getD 19 undef = _ at s19
        simp at s19
        clear hp
        refine wpOp_of_list rfl rfl ?_
        go_wp2_with (fail)
        exact ⟨_, rfl, rfl, Gx.refl hcu.out⟩
      · intro hp
        have s18 := hp 2 (by rfl)
        change a.tmps.getD 18 undef = _ at s18
        simp at s18
        have s20 := hp 4 (by rfl)
        change a.tmps.getD 20 undef = _ at s20
        simp at s20
        clear hp
        refine wpOp_of_list rfl rfl ?_
        go_wp2_with (go_at_call 77; refine (l01Below_any g P.length l _ hl (by omega) (by omega) hcu.out).mono ?_; rintro e wq ⟨x, rfl, hx0, hx1, hcq, hgq⟩; obtain ⟨x, rfl⟩ := Int.eq_ofNat_of_zero_le hx0)
        exact ⟨_, rfl, ⟨x, rfl, by omega⟩, ⟨hgq, hcq⟩⟩
      · intro hp
        have s17 := hp 1 (by rfl)
        obtain s17 := s17
        change a.tmps.getD 17 undef = _ at s17
        simp at s17
        have s21 := hp 5 (by rfl)
        obtain ⟨x, s21, hx⟩ := s21
        change a.tmps.getD 21 undef = _ at s21
        simp at s21
        clear hp
        refine wpOp_of_list rfl rfl ?_
        obtain ⟨q, o, rfl, hq, hqc⟩ := HRP.out.2 h0'
        go_wp2_with (fail)
        exact ⟨_, rfl, ⟨x, q, o, rfl, hx, rfl⟩, Gx.refl hcu.out⟩
      · intro hp
        have s22 := hp 6 (by rfl)
        obtain ⟨x, q, o, s22, hx, rfl⟩ := s22
        change a.tmps.getD 22 undef = _ at s22
        simp at s22
        clear hp
        refine wpOp_of_list rfl rfl ?_
        obtain ⟨q', o', eq, hq, hqc⟩ := (Rds.of_own HPP.out).2 h0'
        injection eq with eq
        injection eq with eq1 eq2 _
        subst eq1 eq2
        have hqx := hqc x _ (encI_castZ_get hx)
        go_wp2_with (fail)
        exact ⟨_, rfl, ⟨x, hx, rfl⟩, Gx.refl hcu.out⟩
      · intro hp
        have s16 := hp 0 (by rfl)
        change a.tmps.getD 16 undef = _ at s16
        simp at s16
        have s23 := hp 7 (by rfl)
        obtain ⟨x, hx, s23⟩ := s23
        change a.tmps.getD 23 undef = _ at s23
        simp at s23
        clear hp
        refine wpOp_of_list rfl rfl ?_
        go_wp2_with (go_at_call 38; refine (sShapeOf_any N E A B c c' ((P[x] : Nat) : Int) _ ((HN4.out.gx HE.out (by omega)).wr (by omega) (by omega))).mono ?_; rintro e wq ⟨A5, c5, rfl, hoq, hbq⟩)
        exact ⟨_, rfl, ⟨_, A5, c5, rfl, HDP.out x hx, own_mono hoq (by have := HE.out.size; omega)⟩, Gx.ext hcu.out hbq⟩
    case R5fin =>
      intro X w' hE hp
      obtain ⟨⟨⟨⟨⟨⟨⟨⟨⟨-, h0⟩, h1⟩, h2⟩, h3⟩, h4⟩, h5⟩, h6⟩, h7⟩, h8⟩ := hp
      change X 0 = _ at h0
      obtain h1 := h1
      change X 1 = _ at h1
      change X 2 = _ at h2
      change X 3 = _ at h3
      change X 4 = _ at h4
      obtain ⟨x, h5, hx⟩ := h5
      change X 5 = _ at h5
      obtain ⟨x, q, o, h6, hx, rfl⟩ := h6
      change X 6 = _ at h6
      obtain ⟨x, hx, h7⟩ := h7
      change X 7 = _ at h7
      obtain ⟨S, AS, cS, h8, hds, hos⟩ := h8
      change X 8 = _ at h8
      simp only [List.drop_succ_cons, List.drop_zero]
      go_simp
      have HGF := hide (HG4.out.trans hE)
      have HOS := hide hos
      clear hos hE
      go_wp2_with fail
      go_ret
      exact ⟨S, _, _, rfl, hds, own_mono HOS.out (by omega), HGF.out⟩
set_option maxRecDepth 20000 in
set_option maxHeartbeats 2000000 in
theorem DrawShape_any (l : List Int) (A0 : Option Addr) (c0 : Nat) (w : World) (hl : l.length ≤ 1048576) (hr : RB w A0 l) :
    Calls Try.prog 29 #[.slice A0 l.length c0] w fun e w' => ∃ S A c, e = .returned (.slice A S.length c) ∧ DS S ∧ w'.ownsRow w.heap.size 50 2 (.slice A S.length c) S.length (enc2 S) ∧ Ext w w' := by
  have HR := hide hr
  clear hr
  go_enter Try.func29, Try.ntmps29
  go_wp2_with fail
  refine (l01New_any l A0 c0 _ hl HR.out).mono ?_
  rintro e w1 ⟨g, rfl, hgz, hcur, hb1⟩
  have HC1 := hide hcur
  have HE1 := hide hb1
  clear hcur hb1
  go_wp2_with fail
  refine (l18Shape_any g l _ hl HC1.out).mono ?_
  rintro e w2 ⟨S, A, c, rfl, hd, ho, hgx⟩
  have HO := hide ho
  have HGX := hide hgx
  clear ho hgx
  go_wp2_with fail
  go_ret
  exact ⟨S, _, _, rfl, hd, own_mono HO.out HE1.out.size, HE1.out.grown HGX.out.gr (fun k hk => by injection hk with hk; omega)⟩
end Go.Proofs.Ytabgcpoaepafjaa
