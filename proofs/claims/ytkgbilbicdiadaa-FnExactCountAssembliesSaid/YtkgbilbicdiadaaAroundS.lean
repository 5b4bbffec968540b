/- The walk of the reference's 'l05Around'. No condition but a window that is one, and a node at which a dart begins. -/
import Derived.Test.YtkgbilbicdiadaaAround
set_option linter.unusedSimpArgs false
set_option linter.unusedVariables false
namespace Go.Proofs.Ytkgbilbicdiadaa
open Go.RowKit

theorem midL_shift2 (y x : Nat) (a b rest : List Nat) : (midL y a (x :: b) rest).set (b.length + 1) x = midL x (a ++ [x]) b rest := by
  rw [midL_shift y]
  simp [midL]
theorem midL_put (y v : Nat) (a b rest : List Nat) : (midL y a b rest).set b.length v = midL v a b rest := by
  unfold midL
  rw [List.set_append]
  simp
theorem arR_mem {N E : List P2} {k : Int} {n d : Nat} (h : d ∈ arR N E k n) : d < n ∧ fromN E d = k := dartsAt_mem ((arR_perm N E k n).mem_iff.1 h)
theorem arR_succ {N E : List P2} {k : Int} {n : Nat} (h : fromN E n = k) : arR N E k (n + 1) = insR (ltD N E k) n (arR N E k n) := by simp [arR, h]
theorem arR_skip {N E : List P2} {k : Int} {n : Nat} (h : fromN E n ≠ k) : arR N E k (n + 1) = arR N E k n := by simp [arR, h]
theorem Ext.set' {a b : World} (h : Ext a b) {g : Nat} (hp : a.heap.size ≤ g) (i : Nat) (u : Value) : Ext a (b.setCell ⟨g, i, none⟩ u) := h.setk hp u
set_option maxRecDepth 20000 in
set_option maxHeartbeats 4000000 in
theorem l05Around_any (N E : List P2) (A B : Option Addr) (c c' k : Nat) (w : World) (hw : WR w N E A B c c') (hok : WinOk N E) (hk : k < N.length) (hne : 0 < (aroundL N E k).length) :
    Calls Try.prog 178 #[.agg #[.slice A N.length c, .slice B E.length c'], .int .i64 (k : Nat)] w fun e w' => ∃ g c2, e = .returned (.slice (some ⟨g, 0, none⟩) (aroundL N E k).length c2) ∧ w'.ownsRow w.heap.size 3 1 (.slice (some ⟨g, 0, none⟩) (aroundL N E k).length c2) (aroundL N E k).length (encN (aroundL N E k)) ∧ Ext w w' := by
  obtain ⟨i0, hi, hz0, hz1, hz2⟩ := info_parts int_info
  obtain ⟨bN, oN, hA, _⟩ := R2.at_ hw.hr hk
  subst hA
  have HW := hide hw
  have HK := hide hok
  have hm := hok.m
  have HNE := hide hne
  clear hw hok hne
  
  go_enter Try.func178, Try.ntmps178
  go_wp2_with fail
  obtain ⟨w0, hw⟩ : ∃ w1, w1 = w.alloc (Obj.cells #[Value.slice (some ⟨bN, oN, none⟩) N.length c, Value.slice B E.length c'] 27) := ⟨_, rfl⟩
  rw [← hw]
  have hsz0 : w0.heap.size = w.heap.size + 1 := by rw [hw]; simp
  have HT := hide (show Tr [(w.heap.size, [.slice (some ⟨bN, oN, none⟩) N.length c, .slice B E.length c'])] w w0 from by rw [hw]; exact ⟨by simp [Bx, CellsAt, go_sem, *], by repeat (first | exact kE | exact Ext.refl _ | apply Ext.alloc | apply Ext.drewN | apply Ext.drew | apply Ext.set0 | apply Ext.set1 | apply Ext.set2 | apply Ext.set3 | (refine Ext.setk ?_ (by omega) _) | (apply Ext.snoc; assumption))⟩)
  clear hw
  rw [← hsz0]
  have HSZ := hide hsz0
  clear hsz0
  have kT := HT.out; simp only [Tr, Bx, CellsAt, Nat.reduceAdd, Nat.zero_add, and_true] at kT; obtain ⟨⟨kz0, kf0, kc0_0, kc0_1⟩, kE⟩ := kT
  have HW0 := hide kE
  have HT0 := HT
  clear kz0 kf0 kc0_0 kc0_1 kE
  go_loopw [5, 6] (fun v i wr => ∃ d : Nat, d ≤ 2 * E.length ∧ i = .int .i64 d ∧ Hid (wr.ownsRow w0.heap.size 3 1 v (arR N E k d).length (encN (arR N E k d).reverse)) ∧ Hid (Ext w0 wr)) (fun _ i _ => 2 * E.length - (intOf i).toNat)
  case atStart => exact ⟨0, Nat.zero_le _, rfl, hide (World.ownsRow_lit w0 #[] 0 (Nat.le_refl _) (Nat.zero_le _) rfl), hide ((Ext.refl _).alloc _)⟩
  case round =>
    obtain ⟨d, hd, rfl, HO, HE⟩ := hrel
    have hE := HE.out
    have HT := hide (HT.out.ext hE); clear hE; have kT := HT.out; simp only [Tr, Bx, CellsAt, Nat.reduceAdd, Nat.zero_add, and_true] at kT; obtain ⟨⟨kz0, kf0, kc0_0, kc0_1⟩, kE⟩ := kT
    by_cases hlt : d < 2 * E.length
    · have hlz : (d : Int) < 2 * (E.length : Int) := by omega
      obtain ⟨f, hf⟩ := Int.eq_ofNat_of_zero_le (HK.out.ends hlt).1
      obtain ⟨t, ht⟩ := Int.eq_ofNat_of_zero_le (HK.out.ends (twin_lt hlt)).1
      have htl : t < N.length := by have := (HK.out.ends (twin_lt hlt)).2.1; omega
      have HF := hide hf
      have HTT := hide ht
      have HC := l05Ends_any N E (some ⟨bN, oN, none⟩) B c c' d _ (HW.out.ext kE) hlt
      rw [hf, ht] at HC
      clear hf ht
      by_cases hfk : f = k
      · subst hfk
        have hrl : (arR N E (f : Nat) d).length ≤ 12 := by rw [(arR_perm N E (f : Nat) d).length_eq]; exact HK.out.degree _ _ (by omega)
        obtain ⟨A0, c2, rfl, hc2, hA0, hA1⟩ := own_slice HO.out
        clear hA0 hA1
        go_wp2_with (first | (go_at_call 131; refine HC.mono ?_; rintro e w3 ⟨rfl, hb3⟩; have hsz3 := hb3.size; have hsz2 := HE.out.size; have HB3 := hide hb3; clear hb3) | (at_builtin; refine wpList_append_own _ rfl _ _ 29 rfl w0.heap.size 3 i0 (.int .i64 0) 1 8 Try.underlying29 hi hz0 hz1 hz2 rfl (by decide) (.slice A0 (arR N E (f : Nat) d).length c2) (arR N E (f : Nat) d).length (encN (arR N E (f : Nat) d).reverse) rfl (own_ext (own_ext HO.out HB3.out) ((Ext.refl _).alloc _)) ⟨w3.heap.size, 0, none⟩ 1 1 [.int .i64 (d : Int)] rfl rfl (news_new w3 #[.int .i64 (d : Int)] 3) (one_cell _) (by unfold maxLen; omega) (by omega) (by first | (simp; done) | (simp; omega)) ?_; intro v' w4 hown4 hgrow4 hnil))
        have HE4 := hide (Ext.grown ((HE.out.trans HB3.out).alloc _) hgrow4 (own_base HO.out (Nat.le_refl _)))
        obtain ⟨r, hr⟩ : ∃ r, arR N E (f : Nat) d = r := ⟨_, rfl⟩
        rw [hr] at hown4 hrl
        have HO4 := hide (show w4.ownsRow w0.heap.size 3 1 v' (r.length + 1) (encN (midL d [] r [])) from by
          have e : midL d [] r [] = r.reverse ++ [d] := by simp [midL]
          rw [e, encN_append]
          exact hown4)
        have HR := hide hr
        rw [hr]
        clear hown4 hgrow4 hnil hr HO HE HB3 hsz3 hsz2 hc2
        obtain ⟨A1, c3, rfl, hc3, hA0, hA1⟩ := own_slice HO4.out
        cases A1 with
        | none => exact absurd (hA0 rfl) (by omega)
        | some a1 =>
        obtain ⟨g, rfl, hgB, _, _⟩ := hA1 a1 rfl
        clear hA0 hA1 HT
        clear kz0 kf0 kc0_0 kc0_1 kE
        go_loopw [9] (fun vj wi => ∃ (y : Nat) (a b : List Nat), vj = .int .i64 (b.length : Nat) ∧ Hid (InsMid (ltD N E (f : Nat)) d r a b) ∧ Hid (wi.ownsRow w0.heap.size 3 1 (.slice (some ⟨g, 0, none⟩) (r.length + 1) c3) (r.length + 1) (encN (midL y a b []))) ∧ Hid (Ext w0 wi)) (fun vj _ => (intOf vj).toNat)
        case atStart => exact ⟨d, [], r, rfl, hide (InsMid.start _ d r), HO4, HE4⟩
        case round =>
          clear HO4 HE4
          obtain ⟨y, a, b, rfl, HM, HO2, HE2⟩ := hrel
          have HT := hide (HT0.out.ext HE2.out)
          obtain ⟨w2, rfl⟩ : ∃ w2 : World, w2 = wr := ⟨_, rfl⟩
          have kT := HT.out; simp only [Tr, Bx, CellsAt, Nat.reduceAdd, Nat.zero_add, and_true] at kT; obtain ⟨⟨kz0, kf0, kc0_0, kc0_1⟩, kE⟩ := kT
          have hgl := (own_ltg HO2.out).2
          cases b with
          | nil =>
            have cv := own_cellN HO2.out (by rw [midL_length]; have := HM.out.eq; rw [this]; simp; omega) (midL_v y a [] [])
            have f1 := HO2.out.frozenAt 0
            rw [List.length_nil] at cv
            have z5 : (0 : Int) < (r.length : Int) + 1 := by omega
            have hst := HO2.out.stored 0 (.int .i64 (d : Nat))
            have hE5 := hide (HE2.out.set' (g := g) (by omega) 0 (.int .i64 (d : Nat)))
            have HO5 := hide (show (w2.setCell ⟨g, 0, none⟩ (.int .i64 (d : Nat))).ownsRow w0.heap.size 3 1 (.slice (some ⟨g, 0, none⟩) (r.length + 1) c3) (r.length + 1) (encN (a ++ d :: []).reverse) from by
              have h := hst.1
              rw [← encN_set, show midL y a [] [] = midL y a [] [] from rfl, ← List.length_nil (α := Nat), midL_put, midL_end, List.append_nil] at h
              exact h)
            clear hst HO2 HE2
            go_wp2_with fail
            obtain ⟨w6, hw6⟩ : ∃ w6, w6 = w2.setCell ⟨g, 0, none⟩ (.int .i64 (d : Nat)) := ⟨_, rfl⟩
            rw [← hw6] at HO5 hE5 ⊢
            clear hw6
            have HD := hide (show arR N E (f : Nat) (d + 1) = a ++ d :: [] by rw [arR_succ HF.out, HR.out]; exact HM.out.stop_nil)
            have HLL := hide (show (arR N E (f : Nat) (d + 1)).length = r.length + 1 by rw [arR_succ HF.out, HR.out, insR_length])
            go_roundw
            case rel => exact ⟨d + 1, by omega, by go_num, by rw [HLL.out, HD.out]; exact HO5, hE5⟩
            case measure => simp [intOf]; omega
          | cons x b =>
            obtain ⟨j, hj⟩ : ∃ j, b.length = j := ⟨_, rfl⟩
            have HJ := hide hj
            have hrx : x ∈ r := by rw [HM.out.eq]; simp
            rw [← HR.out] at hrx
            have hxd := arR_mem hrx
            have hxl : x < 2 * E.length := by omega
            have hrj : j < r.length := by have := HM.out.eq; rw [this]; simp; omega
            have hll : (midL y a (x :: b) []).length = r.length + 1 := by have := HM.out.eq; rw [midL_length, this]; simp; omega
            have cx := own_cellN HO2.out hll (by have := midL_x y x a b []; rw [hj] at this; exact this)
            have cy := own_cellN HO2.out hll (by have := midL_v y a (x :: b) []; rw [List.length_cons, hj] at this; exact this)
            have f1 := HO2.out.frozenAt (j + 1)
            obtain ⟨tx, htx⟩ := Int.eq_ofNat_of_zero_le (HK.out.ends (twin_lt hxl)).1
            have htxl : tx < N.length := by have := (HK.out.ends (twin_lt hxl)).2.1; omega
            have HCX := fun p : ExtBy w2 => l05Ends_any N E (some ⟨bN, oN, none⟩) B c c' x p.w (HW.out.ext (kE.trans p.h)) hxl
            rw [hxd.2, htx] at HCX
            have HCX := hide HCX
            rw [List.length_cons, hj]
            have z0 : ((j + 1 : Nat) : Int) = (j : Int) + 1 := by omega
            rw [z0]
            clear z0
            obtain ⟨iN, hiN⟩ : ∃ iN, iN = j + 1 := ⟨_, rfl⟩
            rw [← hiN] at cy f1
            have HIJ := hide hiN
            have z1 : decide ((j : Int) + 1 > 0) = true := decide_eq_true (by omega)
            have z2 : ((j : Int) + 1).toNat = iN := by omega
            have z3 : (0 : Int) ≤ (j : Int) + 1 := by omega
            have z4 : (j : Int) < (r.length : Int) := by omega
            have z4' : (j : Int) < (r.length : Int) + 1 := by omega
            have z6 : (0 : Int) < (j : Int) + 1 := by omega
            have z7 : IntKind.i64.wrap (j : Int) = (j : Int) := by rw [IntKind.wrap_i64]; omega
            have z8 : IntKind.i64.wrap ((j : Int) + 1) = (j : Int) + 1 := by rw [IntKind.wrap_i64]; omega
            have z9 : (0 : Int) ≤ (j : Int) := by omega
            have HXD := hide hxd
            have HTX := hide htx
            have HLL := hide hll
            clear hiN hj hrx hxd htx hll
            have qcx := ExtBy.cell (W := w2) hgl cx
            go_wp2_with fail
            have kq0_0 := ExtBy.cell (W := w2) kz0 kc0_0; have kq0_1 := ExtBy.cell (W := w2) kz0 kc0_1; refine wp_region_quietE (by kernel_rfl) (by kernel_rfl) ?_; (repeat (refine WQ.step (fun K hK => ?_); have HK := hide hK; clear hK; go_simp; refine HK.out _ ?_; clear HK K)); (refine WQ.step (fun K hK => ?_); have HK := hide hK; clear hK; go_simp; apply Exists.intro; refine ⟨fun _ => ?_, HK.out _ ?_⟩; (go_at_call 131; refine extby_of (HCX.out _)); clear HK K); (repeat (refine WQ.step (fun K hK => ?_); have HK := hide hK; clear hK; go_simp; refine HK.out _ ?_; clear HK K)); refine WQ.done ?_; intro w7 hw'; obtain ⟨⟨_, hw7⟩, hw''⟩ := hw'; subst hw''; clear kq0_0 kq0_1; have HT := hide (HT.out.ext hw7); have Hw7 := hide hw7; clear hw7 kz0 kf0 kc0_0 kc0_1 kE; have kT := HT.out; simp only [Tr, Bx, CellsAt, Nat.reduceAdd, Nat.zero_add, and_true] at kT; obtain ⟨⟨kz0, kf0, kc0_0, kc0_1⟩, kE⟩ := kT
            clear HCX
            have HO7 := hide (own_ext HO2.out Hw7.out)
            have HE7 := hide (HE2.out.trans Hw7.out)
            have hgl7 := Hw7.out.facts.2.2 g hgl
            have cx7 := (Hw7.out.facts.1 g j hgl).trans cx
            have cy7 := (Hw7.out.facts.1 g iN hgl).trans cy
            have f7 := (Hw7.out.facts.2.1 g iN hgl).trans f1
            clear qcx cx cy f1 hgl HO2 HE2
            have hWN := HW.out.hr.ext kE
            obtain ⟨b', o', hA', hbN, d0, d1⟩ := R2.at_ hWN hk
            injection hA' with hA'
            injection hA' with hA1 hA2 _
            subst hA1 hA2
            obtain ⟨b', o', hA', _, e0, e1⟩ := R2.at_ hWN htl
            injection hA' with hA'
            injection hA' with hA1 hA2 _
            subst hA1 hA2
            obtain ⟨b', o', hA', _, g0, g1⟩ := R2.at_ hWN htxl
            injection hA' with hA'
            injection hA' with hA1 hA2 _
            subst hA1 hA2
            obtain ⟨⟨x1, x2⟩, nx⟩ : ∃ q : P2, N[f] = q := ⟨_, rfl⟩
            obtain ⟨⟨y1, y2⟩, ny⟩ : ∃ q : P2, N[t] = q := ⟨_, rfl⟩
            obtain ⟨⟨v1, v2⟩, nz⟩ : ∃ q : P2, N[tx] = q := ⟨_, rfl⟩
            rw [nx] at d0 d1
            rw [ny] at e0 e1
            rw [nz] at g0 g1
            dsimp only at d0 d1 e0 e1 g0 g1
            have HV : Hid (ltD N E (f : Nat) d x = befN (x1, x2) (y1, y2) (v1, v2)) := hide (by unfold ltD; rw [HTT.out, HTX.out, at2_eq hk, at2_eq htl, at2_eq htxl, nx, ny, nz])
            have q1 := ExtBy.cell (W := w7) hbN d0
            have q2 := ExtBy.cell (W := w7) hbN d1
            have q3 := ExtBy.cell (W := w7) hbN e0
            have q4 := ExtBy.cell (W := w7) hbN e1
            have q5 := ExtBy.cell (W := w7) hbN g0
            have q6 := ExtBy.cell (W := w7) hbN g1
            clear d0 d1 e0 e1 g0 g1 hWN nx ny nz
            have i1 : (f : Int) < (N.length : Int) := by omega
            have i2 : (t : Int) < (N.length : Int) := by omega
            have i3 : (tx : Int) < (N.length : Int) := by omega
            obtain ⟨v, hv⟩ : ∃ v, befN (x1, x2) (y1, y2) (v1, v2) = v := ⟨_, rfl⟩
            have HB := fun p : ExtBy w7 => sIsBeforeAround_any (x1, x2) (y1, y2) (v1, v2) p.w
            rw [hv] at HB
            have HB := hide HB
            have HVV := hide hv
            clear hv
            go_wp2_with fail
            have kq0_0 := ExtBy.cell (W := w7) kz0 kc0_0; have kq0_1 := ExtBy.cell (W := w7) kz0 kc0_1; refine wp_region_quietE (by kernel_rfl) (by kernel_rfl) ?_; (repeat (refine WQ.step (fun K hK => ?_); have HK := hide hK; clear hK; go_simp; refine HK.out _ ?_; clear HK K)); (refine WQ.step (fun K hK => ?_); have HK := hide hK; clear hK; go_simp; apply Exists.intro; refine ⟨fun _ => ?_, HK.out _ ?_⟩; (go_at_call 182; refine extby_of (HB.out _)); clear HK K); (repeat (refine WQ.step (fun K hK => ?_); have HK := hide hK; clear hK; go_simp; refine HK.out _ ?_; clear HK K)); refine WQ.done ?_; intro w8 hw'; obtain ⟨⟨_, hw8⟩, hw''⟩ := hw'; subst hw''; clear kq0_0 kq0_1; have HT := hide (HT.out.ext hw8); have Hw8 := hide hw8; clear hw8 kz0 kf0 kc0_0 kc0_1 kE; have kT := HT.out; simp only [Tr, Bx, CellsAt, Nat.reduceAdd, Nat.zero_add, and_true] at kT; obtain ⟨⟨kz0, kf0, kc0_0, kc0_1⟩, kE⟩ := kT
            clear HB q1 q2 q3 q4 q5 q6
            have HO8 := hide (own_ext HO7.out Hw8.out)
            have HE8 := hide (HE7.out.trans Hw8.out)
            have hgl := Hw8.out.facts.2.2 g hgl7
            have cx := (Hw8.out.facts.1 g j hgl7).trans cx7
            have cy := (Hw8.out.facts.1 g iN hgl7).trans cy7
            have f1 := (Hw8.out.facts.2.1 g iN hgl7).trans f7
            clear cx7 cy7 f7 hgl7 HO7 HE7
            cases v with
            | true =>
              go_wp2_with fail
              have hst := HO8.out.stored (j + 1) (.int .i64 (x : Nat))
              have hE5 := hide (HE8.out.set' (g := g) (by omega) iN (.int .i64 (x : Nat)))
              have HO5 := hide (show (w8.setCell ⟨g, iN, none⟩ (.int .i64 (x : Nat))).ownsRow w0.heap.size 3 1 (.slice (some ⟨g, 0, none⟩) (r.length + 1) c3) (r.length + 1) (encN (midL x (a ++ [x]) b [])) from by
                have h := hst.1
                rw [← encN_set, ← HJ.out, midL_shift2, HJ.out, ← HIJ.out] at h
                exact h)
              clear hst HO8 HE8
              obtain ⟨w6, hw6⟩ : ∃ w6, w6 = w8.setCell ⟨g, iN, none⟩ (.int .i64 (x : Nat)) := ⟨_, rfl⟩
              rw [← hw6] at HO5 hE5 ⊢
              clear hw6
              go_roundw
              case rel => exact ⟨x, a ++ [x], b, by rw [HJ.out], hide (HM.out.go (by rw [HV.out, HVV.out])), HO5, hE5⟩
              case measure => simp [intOf]
            | false =>
              go_wp2_with fail
              have HINS := hide (HM.out.stop (show ltD N E (f : Nat) d x = false by rw [HV.out, HVV.out]))
              have hst := HO8.out.stored (j + 1) (.int .i64 (d : Nat))
              have hE5 := hide (HE8.out.set' (g := g) (by omega) iN (.int .i64 (d : Nat)))
              have HO5 := hide (show (w8.setCell ⟨g, iN, none⟩ (.int .i64 (d : Nat))).ownsRow w0.heap.size 3 1 (.slice (some ⟨g, 0, none⟩) (r.length + 1) c3) (r.length + 1) (encN (a ++ d :: x :: b).reverse) from by
                have h := hst.1
                have e : j + 1 = (x :: b).length := by rw [List.length_cons, HJ.out]
                rw [← encN_set, e, midL_put, midL_end, List.append_nil, ← e, ← HIJ.out] at h
                exact h)
              clear hst HO8 HE8
              obtain ⟨w6, hw6⟩ : ∃ w6, w6 = w8.setCell ⟨g, iN, none⟩ (.int .i64 (d : Nat)) := ⟨_, rfl⟩
              rw [← hw6] at HO5 hE5 ⊢
              clear hw6
              have HD := hide (show arR N E (f : Nat) (d + 1) = a ++ d :: x :: b by rw [arR_succ HF.out, HR.out]; exact HINS.out)
              have HLL := hide (show (arR N E (f : Nat) (d + 1)).length = r.length + 1 by rw [arR_succ HF.out, HR.out, insR_length])
              go_roundw
              case rel => exact ⟨d + 1, by omega, by go_num, by rw [HLL.out, HD.out]; exact HO5, hE5⟩
              case measure => simp [intOf]; omega
      · have h1 : ((f : Int) != (k : Int)) = true := by simp; omega
        have h1' : (f != k) = true := by simp; omega
        have HN := hide hfk
        clear hfk
        go_wp2_with (go_at_call 131; refine HC.mono ?_; rintro e w3 ⟨rfl, hb3⟩)
        have HO3 := hide (own_ext HO.out hb3)
        have HE3 := hide (HE.out.trans hb3)
        clear hb3
        have HD := hide (show arR N E (k : Nat) (d + 1) = arR N E (k : Nat) d from arR_skip (by rw [HF.out]; intro e; exact HN.out (by omega)))
        go_roundw
        case rel => exact ⟨d + 1, by omega, by go_num, by rw [HD.out]; exact HO3, HE3⟩
        case measure => simp [intOf]; omega
    · obtain rfl : d = 2 * E.length := by omega
      have hlz : ¬ ((2 * E.length : Nat) : Int) < 2 * (E.length : Int) := by omega
      have HO2 := hide (show wr.ownsRow w0.heap.size 3 1 _ (aroundL N E k).length (encN (aroundL N E k)) from by
        have h := HO.out
        have hl : (arR N E k (2 * E.length)).length = (aroundL N E k).length := by unfold aroundL; simp
        rw [hl] at h
        exact h)
      clear HO
      obtain ⟨A0, c2, rfl, hc2, hA0, hA1⟩ := own_slice HO2.out
      cases A0 with
      | none => exact absurd (hA0 rfl) (by have := HNE.out; omega)
      | some a0 =>
        obtain ⟨g, rfl, hgB, hgl, _⟩ := hA1 a0 rfl
        clear hA0 hA1
        have hB := HW0.out.size
        go_wp2_with fail
        go_ret
        exact ⟨g, c2, rfl, own_mono HO2.out hB, HW0.out.trans HE.out⟩
end Go.Proofs.Ytkgbilbicdiadaa
