/- Walks of the area of a face (both forms). No condition but a window that is one and darts of it, at most 40. -/
import Derived.Test.YtkgbilbicdiadaaAround
set_option linter.unusedSimpArgs false
set_option linter.unusedVariables false
namespace Go.Proofs.Ytkgbilbicdiadaa
open Go.RowKit

theorem area_take {N E : List P2} {l : List Nat} {k : Nat} (h : k < l.length) : areaL N E (l.take (k + 1)) = areaL N E (l.take k) + cross2 N E l[k] := by
  unfold areaL
  rw [List.take_succ_eq_append_getElem h, List.map_append, List.sum_append_int]
  simp
theorem area_in {N E : List P2} (hok : WinOk N E) {l : List Nat} (hl : ∀ d ∈ l, d < 2 * E.length) : -(400 * (l.length : Int)) ≤ areaL N E l ∧ areaL N E l ≤ 400 * l.length := by
  induction l with
  | nil => simp [areaL]
  | cons d l ih =>
    have h1 := ih fun x hx => hl x (List.mem_cons_of_mem _ hx)
    have h2 := hok.cross_in (hl d (by simp))
    have e : areaL N E (d :: l) = cross2 N E d + areaL N E l := by simp [areaL]
    rw [e, List.length_cons]
    push_cast
    omega
set_option maxRecDepth 20000 in
set_option maxHeartbeats 4000000 in
theorem areaOf_any (N E : List P2) (A B A3 : Option Addr) (c c' c3 : Nat) (l : List Nat) (w : World) (hw : WR w N E A B c c') (hok : WinOk N E) (hl : ∀ d ∈ l, d < 2 * E.length) (hl40 : l.length ≤ 40) (hrl : Rds w 1 A3 l.length (encN l)) :
    Calls Try.prog 150 #[.agg #[.slice A N.length c, .slice B E.length c'], .slice A3 l.length c3] w fun e w' => e = .returned (.int .i64 (areaL N E l)) ∧ Ext w w' := by
  have hpos : 0 < N.length := hok.n.1
  obtain ⟨bN, oN, hA, hrest⟩ := R2.at_ hw.hr hpos
  clear hrest
  subst hA
  have HW := hide hw
  have HK := hide hok
  have HL := hide hl
  have HRL := hide hrl
  have hm := hok.m
  clear hw hok hl hrl
  
  go_enter Try.func150, Try.ntmps150
  go_wp2_with fail
  obtain ⟨w0, hw⟩ : ∃ w1, w1 = w.alloc (Obj.cells #[Value.slice (some ⟨bN, oN, none⟩) N.length c, Value.slice B E.length c'] 27) := ⟨_, rfl⟩; rw [← hw]; have kT : Tr [(w.heap.size, [.slice (some ⟨bN, oN, none⟩) N.length c, .slice B E.length c'])] w w0 := (by rw [hw]; exact ⟨by (first | (simp [Bx, CellsAt, go_sem, *]; done) | (simp [Bx, CellsAt, go_sem, *]; omega)), by (repeat (first | exact kE | exact Ext.refl _ | apply Ext.alloc | apply Ext.drewN | apply Ext.drew | apply Ext.set0 | apply Ext.set1 | apply Ext.set2 | apply Ext.set3 | (refine Ext.setk ?_ (by omega) _) | (apply Ext.snoc; assumption)))⟩); have HT := hide kT; clear hw kT; have kT := HT.out; simp only [Tr, Bx, CellsAt, Nat.reduceAdd, Nat.zero_add, and_true] at kT; obtain ⟨⟨kz0, kf0, kc0_0, kc0_1⟩, kE⟩ := kT
  clear kz0 kf0 kc0_0 kc0_1 kE
  go_loopw [5, 12] (fun v i wr => ∃ k : Nat, k ≤ l.length ∧ i = .int .i64 k ∧ v = .int .i64 (areaL N E (l.take k)) ∧ Hid (Ext w0 wr)) (fun _ i _ => l.length - (intOf i).toNat)
  case atStart => exact ⟨0, Nat.zero_le _, rfl, rfl, hide (Ext.refl _)⟩
  case round =>
    obtain ⟨k, hk, rfl, rfl, HE⟩ := hrel
    have hE := HE.out
    have HT := hide (HT.out.ext hE); clear hE; have kT := HT.out; simp only [Tr, Bx, CellsAt, Nat.reduceAdd, Nat.zero_add, and_true] at kT; obtain ⟨⟨kz0, kf0, kc0_0, kc0_1⟩, kE⟩ := kT
    by_cases hlt : k < l.length
    · have hlz : (k : Int) < (l.length : Int) := by omega
      obtain ⟨bL, oL, rfl, hbL, cl⟩ := RN.at_ (HRL.out.ext kE) rfl hlt
      have hdm := HL.out _ (List.getElem_mem hlt)
      have HT1 := hide (area_take (N := N) (E := E) hlt)
      have har := area_in HK.out (l := l.take k) fun d hd => HL.out d (List.mem_of_mem_take hd)
      rw [List.length_take, Nat.min_eq_left (by omega)] at har
      obtain ⟨s, hs⟩ : ∃ s, areaL N E (l.take k) = s := ⟨_, rfl⟩
      rw [hs] at HT1 har ⊢
      obtain ⟨d, hd⟩ : ∃ d, l[k] = d := ⟨_, rfl⟩
      rw [hd] at hdm HT1 cl
      clear hs hd
      obtain ⟨p, hp⟩ := Int.eq_ofNat_of_zero_le (HK.out.ends hdm).1
      obtain ⟨q, hq⟩ := Int.eq_ofNat_of_zero_le (HK.out.ends (twin_lt hdm)).1
      have hpl : p < N.length := by have := (HK.out.ends hdm).2.1; omega
      have hql : q < N.length := by have := (HK.out.ends (twin_lt hdm)).2.1; omega
      obtain ⟨b', o', hA', hbN, cp0, cp1⟩ := R2.at_ (HW.out.hr.ext kE) hpl
      injection hA' with hA'
      injection hA' with hA1 hA2 _
      subst hA1 hA2
      obtain ⟨b', o', hA', _, cq0, cq1⟩ := R2.at_ (HW.out.hr.ext kE) hql
      injection hA' with hA'
      injection hA' with hA1 hA2 _
      subst hA1 hA2
      have g1 := nodeOk_iff.1 (HK.out.ends hdm).2.2
      have g2 := nodeOk_iff.1 (HK.out.ends (twin_lt hdm)).2.2
      have HCR := hide (show cross2 N E d = (N[p].1 * N[q].2 - N[p].2 * N[q].1) by unfold cross2; rw [hp, hq, at2_eq hpl, at2_eq hql])
      rw [hp, at2_eq hpl] at g1
      rw [hq, at2_eq hql] at g2
      obtain ⟨⟨x1, x2⟩, nx⟩ : ∃ r : P2, N[p] = r := ⟨_, rfl⟩
      obtain ⟨⟨y1, y2⟩, ny⟩ : ∃ r : P2, N[q] = r := ⟨_, rfl⟩
      rw [nx] at cp0 cp1 g1 HCR
      rw [ny] at cq0 cq1 g2 HCR
      dsimp only at cp0 cp1 cq0 cq1 g1 g2
      have m1 := mul_in (x := x1) (y := y2) (m := 20) (n := 20) (by omega) (by omega) (by omega) (by omega)
      have m2 := mul_in (x := x2) (y := y1) (m := 20) (n := 20) (by omega) (by omega) (by omega) (by omega)
      have HP := hide hp
      have HQ := hide hq
      have i2 : (p : Int) < (N.length : Int) := by omega
      have i4 : (q : Int) < (N.length : Int) := by omega
      have H1 : Hid (∀ W, Ext wr W → Calls Try.prog 152 #[.agg #[.slice (some ⟨bN, oN, none⟩) N.length c, .slice B E.length c'], .int .i64 (d : Nat)] W fun x w' => x = .returned (.int .i64 (p : Nat)) ∧ Ext W w') := hide (fun W hE => by
        have := dartFrom_any N E (some ⟨bN, oN, none⟩) B c c' d W (HW.out.ext (kE.trans hE)) hdm
        rw [hp] at this
        exact this)
      have H2 : Hid (∀ W, Ext wr W → Calls Try.prog 152 #[.agg #[.slice (some ⟨bN, oN, none⟩) N.length c, .slice B E.length c'], .int .i64 (twin d : Nat)] W fun x w' => x = .returned (.int .i64 (q : Nat)) ∧ Ext W w') := hide (fun W hE => by
        have := dartFrom_any N E (some ⟨bN, oN, none⟩) B c c' (twin d) W (HW.out.ext (kE.trans hE)) (twin_lt hdm)
        rw [hq] at this
        exact this)
      have xd := xor_twin d (by omega)
      clear hp hq nx ny
      generalize twin d = td at *
      have k1 := ExtBy.cell (W := wr) hbN cp0
      have k2 := ExtBy.cell (W := wr) hbN cp1
      have k3 := ExtBy.cell (W := wr) hbN cq0
      have k4 := ExtBy.cell (W := wr) hbN cq1
      have k5 := ExtBy.cell (W := wr) kz0 kc0_0
      have k6 := ExtBy.cell (W := wr) kz0 kc0_1
      have GB := hide (And.intro g1 (And.intro g2 (And.intro m1 (And.intro m2 har))))
      clear g1 g2 m1 m2 har cp0 cp1 cq0 cq1
      go_wp2_with fail
      clear cl
      refine wp_region_MEl 2 46 (fun k => ([15, 16] : List Nat).getD k 0) (fun k => ([17, 18] : List Nat).getD k 0) [.plain, .plain, .plain, .plain, .plain, .plain, .plain, .plain, .plain, .plain, .plain, .plain, .plain, .plain, .plain, .alloc 0, .alloc 1, .store 0, .store 1] (fun k => ([79, 79] : List Nat).getD k 0) (fun k => ([#[.int .i64 0, .int .i64 0], #[.int .i64 0, .int .i64 0]] : List (Array Value)).getD k #[]) (fun k => ([#[.int .i64 x1, .int .i64 x2], #[.int .i64 y1, .int .i64 y2]] : List (Array Value)).getD k #[]) (fun k => ([some 8, some 9] : List (Option Nat)).getD k none) (by kernel_rfl) (by kernel_rfl) (by kernel_rfl) (by kernel_rfl) (by kernel_rfl) rfl (by kernel_rfl) (by kernel_rfl) (by kernel_rfl) ?_
      (refine WMs.step (fun K hK => ?_); have HK := hide hK; clear hK; go_simp; refine HK.out _ ?_; clear HK K)
      (refine WMs.step (fun K hK => ?_); have HK := hide hK; clear hK; go_simp; refine HK.out _ ?_; clear HK K)
      (refine WMs.step (fun K hK => ?_); have HK := hide hK; clear hK; go_simp; refine HK.out _ ?_; clear HK K)
      (refine WMs.step (fun K hK => ?_); have HK := hide hK; clear hK; go_simp; refine HK.out _ ?_; clear HK K)
      (refine WMs.step (fun K hK => ?_); have HK := hide hK; clear hK; go_simp; apply Exists.intro; refine ⟨fun p => ?_, HK.out _ ?_⟩; (go_at_call 152; exact H1.out _ p.h); clear HK K)
      (refine WMs.step (fun K hK => ?_); have HK := hide hK; clear hK; go_simp; refine HK.out _ ?_; clear HK K)
      (refine WMs.step (fun K hK => ?_); have HK := hide hK; clear hK; go_simp; refine HK.out _ ?_; clear HK K)
      (refine WMs.step (fun K hK => ?_); have HK := hide hK; clear hK; go_simp; refine HK.out _ ?_; clear HK K)
      (refine WMs.step (fun K hK => ?_); have HK := hide hK; clear hK; go_simp; refine HK.out _ ?_; clear HK K)
      (refine WMs.step (fun K hK => ?_); have HK := hide hK; clear hK; go_simp; refine HK.out _ ?_; clear HK K)
      (refine WMs.step (fun K hK => ?_); have HK := hide hK; clear hK; go_simp; refine HK.out _ ?_; clear HK K)
      (refine WMs.step (fun K hK => ?_); have HK := hide hK; clear hK; go_simp; refine HK.out _ ?_; clear HK K)
      (refine WMs.step (fun K hK => ?_); have HK := hide hK; clear hK; go_simp; apply Exists.intro; refine ⟨fun p => ?_, HK.out _ ?_⟩; (go_at_call 152; exact H2.out _ p.h); clear HK K)
      (refine WMs.step (fun K hK => ?_); have HK := hide hK; clear hK; go_simp; refine HK.out _ ?_; clear HK K)
      (refine WMs.step (fun K hK => ?_); have HK := hide hK; clear hK; go_simp; refine HK.out _ ?_; clear HK K)
      refine WMs.made (by intro a' w'; go_simp) ?_
      refine WMs.made (by intro a' w'; go_simp) ?_
      refine WMs.put (by intro w' b hh; obtain ⟨hc0, hc1, hf, hz⟩ := two_cells hh; refine ⟨_, ?_, put_two hh⟩; go_simp) ?_
      refine WMs.put (by intro w' b hh; obtain ⟨hc0, hc1, hf, hz⟩ := two_cells hh; refine ⟨_, ?_, put_two hh⟩; go_simp) ?_
      refine WMs.done ?_
      intro B w2 hE hB
      obtain ⟨⟨_, hB0, hC0⟩, hB1, hC1⟩ := hB
      obtain ⟨B0, hb0⟩ : ∃ b, B 0 = b := ⟨_, rfl⟩
      rw [hb0] at hB0 hC0
      obtain ⟨B1, hb1⟩ : ∃ b, B 1 = b := ⟨_, rfl⟩
      rw [hb1] at hB1 hC1
      simp only [putB, hb0, hb1, List.getD_cons_zero, List.getD_cons_succ]
      clear hb0 hb1
      go_simp
      clear k1 k2 k3 k4 k5 k6
      have HE5 := hide (HE.out.trans hE)
      obtain ⟨a0, a1, _, _⟩ := two_cells hC0
      obtain ⟨b0, b1, _, _⟩ := two_cells hC1
      have w1 : IntKind.i64.wrap (x1 * y2) = x1 * y2 := by rw [IntKind.wrap_i64]; have := GB.out; omega
      have w2' : IntKind.i64.wrap (x2 * y1) = x2 * y1 := by rw [IntKind.wrap_i64]; have := GB.out; omega
      have w3 : IntKind.i64.wrap (x1 * y2 - x2 * y1) = x1 * y2 - x2 * y1 := by rw [IntKind.wrap_i64]; have := GB.out; omega
      have w4 : IntKind.i64.wrap (s + (x1 * y2 - x2 * y1)) = s + (x1 * y2 - x2 * y1) := by rw [IntKind.wrap_i64]; have := GB.out; omega
      clear hC0 hC1 hE hB0 hB1
      go_wp2_with fail
      go_roundw
      case rel => exact ⟨k + 1, by omega, by go_num, by rw [HT1.out, HCR.out], HE5⟩
      case measure => simp [intOf]; omega
    · obtain rfl : k = l.length := by omega
      have e := List.take_length (l := l)
      rw [e]
      clear e
      go_wp2_with fail
      go_ret
      exact ⟨rfl, kE⟩
set_option maxRecDepth 20000 in
set_option maxHeartbeats 4000000 in
theorem l06Area_any (N E : List P2) (A B A3 : Option Addr) (c c' c3 : Nat) (l : List Nat) (w : World) (hw : WR w N E A B c c') (hok : WinOk N E) (hl : ∀ d ∈ l, d < 2 * E.length) (hl40 : l.length ≤ 40) (hrl : Rds w 1 A3 l.length (encN l)) :
    Calls Try.prog 124 #[.agg #[.slice A N.length c, .slice B E.length c'], .slice A3 l.length c3] w fun e w' => e = .returned (.int .i64 (areaL N E l)) ∧ Ext w w' := by
  have hpos : 0 < N.length := hok.n.1
  obtain ⟨bN, oN, hA, hrest⟩ := R2.at_ hw.hr hpos
  clear hrest
  subst hA
  have HW := hide hw
  have HK := hide hok
  have HL := hide hl
  have HRL := hide hrl
  have hm := hok.m
  clear hw hok hl hrl
  
  go_enter Try.func124, Try.ntmps124
  go_wp2_with fail
  obtain ⟨w0, hw⟩ : ∃ w1, w1 = w.alloc (Obj.cells #[Value.slice (some ⟨bN, oN, none⟩) N.length c, Value.slice B E.length c'] 27) := ⟨_, rfl⟩; rw [← hw]; have kT : Tr [(w.heap.size, [.slice (some ⟨bN, oN, none⟩) N.length c, .slice B E.length c'])] w w0 := (by rw [hw]; exact ⟨by (first | (simp [Bx, CellsAt, go_sem, *]; done) | (simp [Bx, CellsAt, go_sem, *]; omega)), by (repeat (first | exact kE | exact Ext.refl _ | apply Ext.alloc | apply Ext.drewN | apply Ext.drew | apply Ext.set0 | apply Ext.set1 | apply Ext.set2 | apply Ext.set3 | (refine Ext.setk ?_ (by omega) _) | (apply Ext.snoc; assumption)))⟩); have HT := hide kT; clear hw kT; have kT := HT.out; simp only [Tr, Bx, CellsAt, Nat.reduceAdd, Nat.zero_add, and_true] at kT; obtain ⟨⟨kz0, kf0, kc0_0, kc0_1⟩, kE⟩ := kT
  clear kz0 kf0 kc0_0 kc0_1 kE
  go_loopw [5, 6] (fun v i wr => ∃ k : Nat, k ≤ l.length ∧ i = .int .i64 k ∧ v = .int .i64 (areaL N E (l.take k)) ∧ Hid (Ext w0 wr)) (fun _ i _ => l.length - (intOf i).toNat)
  case atStart => exact ⟨0, Nat.zero_le _, rfl, rfl, hide (Ext.refl _)⟩
  case round =>
    obtain ⟨k, hk, rfl, rfl, HE⟩ := hrel
    have hE := HE.out
    have HT := hide (HT.out.ext hE); clear hE; have kT := HT.out; simp only [Tr, Bx, CellsAt, Nat.reduceAdd, Nat.zero_add, and_true] at kT; obtain ⟨⟨kz0, kf0, kc0_0, kc0_1⟩, kE⟩ := kT
    by_cases hlt : k < l.length
    · have hlz : (k : Int) < (l.length : Int) := by omega
      obtain ⟨bL, oL, rfl, hbL, cl⟩ := RN.at_ (HRL.out.ext kE) rfl hlt
      have hdm := HL.out _ (List.getElem_mem hlt)
      have HT1 := hide (area_take (N := N) (E := E) hlt)
      have har := area_in HK.out (l := l.take k) fun d hd => HL.out d (List.mem_of_mem_take hd)
      rw [List.length_take, Nat.min_eq_left (by omega)] at har
      obtain ⟨s, hs⟩ : ∃ s, areaL N E (l.take k) = s := ⟨_, rfl⟩
      rw [hs] at HT1 har ⊢
      obtain ⟨d, hd⟩ : ∃ d, l[k] = d := ⟨_, rfl⟩
      rw [hd] at hdm HT1 cl
      clear hs hd
      obtain ⟨p, hp⟩ := Int.eq_ofNat_of_zero_le (HK.out.ends hdm).1
      obtain ⟨q, hq⟩ := Int.eq_ofNat_of_zero_le (HK.out.ends (twin_lt hdm)).1
      have hpl : p < N.length := by have := (HK.out.ends hdm).2.1; omega
      have hql : q < N.length := by have := (HK.out.ends (twin_lt hdm)).2.1; omega
      obtain ⟨b', o', hA', hbN, cp0, cp1⟩ := R2.at_ (HW.out.hr.ext kE) hpl
      injection hA' with hA'
      injection hA' with hA1 hA2 _
      subst hA1 hA2
      obtain ⟨b', o', hA', _, cq0, cq1⟩ := R2.at_ (HW.out.hr.ext kE) hql
      injection hA' with hA'
      injection hA' with hA1 hA2 _
      subst hA1 hA2
      have g1 := nodeOk_iff.1 (HK.out.ends hdm).2.2
      have g2 := nodeOk_iff.1 (HK.out.ends (twin_lt hdm)).2.2
      have HCR := hide (show cross2 N E d = (N[p].1 * N[q].2 - N[p].2 * N[q].1) by unfold cross2; rw [hp, hq, at2_eq hpl, at2_eq hql])
      rw [hp, at2_eq hpl] at g1
      rw [hq, at2_eq hql] at g2
      obtain ⟨⟨x1, x2⟩, nx⟩ : ∃ r : P2, N[p] = r := ⟨_, rfl⟩
      obtain ⟨⟨y1, y2⟩, ny⟩ : ∃ r : P2, N[q] = r := ⟨_, rfl⟩
      rw [nx] at cp0 cp1 g1 HCR
      rw [ny] at cq0 cq1 g2 HCR
      dsimp only at cp0 cp1 cq0 cq1 g1 g2
      have m1 := mul_in (x := x1) (y := y2) (m := 20) (n := 20) (by omega) (by omega) (by omega) (by omega)
      have m2 := mul_in (x := x2) (y := y1) (m := 20) (n := 20) (by omega) (by omega) (by omega) (by omega)
      have HP := hide hp
      have HQ := hide hq
      have i2 : (p : Int) < (N.length : Int) := by omega
      have i4 : (q : Int) < (N.length : Int) := by omega
      have HC := fun r : ExtBy wr => l05Ends_any N E (some ⟨bN, oN, none⟩) B c c' d r.w (HW.out.ext (kE.trans r.h)) hdm
      rw [hp, hq] at HC
      have HC := hide HC
      clear hp hq nx ny
      have GB := hide (And.intro g1 (And.intro g2 (And.intro m1 (And.intro m2 har))))
      have kl := ExtBy.cell (W := wr) hbL cl
      clear g1 g2 m1 m2 har cl
      go_wp2_with fail
      have kq0_0 := ExtBy.cell (W := wr) kz0 kc0_0; have kq0_1 := ExtBy.cell (W := wr) kz0 kc0_1; refine wp_region_quietE (by kernel_rfl) (by kernel_rfl) ?_; (repeat (refine WQ.step (fun K hK => ?_); have HK := hide hK; clear hK; go_simp; refine HK.out _ ?_; clear HK K)); (refine WQ.step (fun K hK => ?_); have HK := hide hK; clear hK; go_simp; apply Exists.intro; refine ⟨fun _ => ?_, HK.out _ ?_⟩; (go_at_call 131; refine extby_of (HC.out _)); clear HK K); (repeat (refine WQ.step (fun K hK => ?_); have HK := hide hK; clear hK; go_simp; refine HK.out _ ?_; clear HK K)); refine WQ.done ?_; intro w2 hw'; obtain ⟨⟨_, hw2⟩, hw''⟩ := hw'; subst hw''; clear kq0_0 kq0_1; have HT := hide (HT.out.ext hw2); have Hw2 := hide hw2; clear hw2 kz0 kf0 kc0_0 kc0_1 kE; have kT := HT.out; simp only [Tr, Bx, CellsAt, Nat.reduceAdd, Nat.zero_add, and_true] at kT; obtain ⟨⟨kz0, kf0, kc0_0, kc0_1⟩, kE⟩ := kT
      have cp0 := (Hw2.out.facts.1 _ _ hbN).trans cp0
      have cp1 := (Hw2.out.facts.1 _ _ hbN).trans cp1
      have cq0 := (Hw2.out.facts.1 _ _ hbN).trans cq0
      have cq1 := (Hw2.out.facts.1 _ _ hbN).trans cq1
      have hbN := Hw2.out.facts.2.2 _ hbN
      have k1 := ExtBy.cell (W := w2) hbN cp0
      have k2 := ExtBy.cell (W := w2) hbN cp1
      have k3 := ExtBy.cell (W := w2) hbN cq0
      have k4 := ExtBy.cell (W := w2) hbN cq1
      clear cp0 cp1 cq0 cq1 kl
      have w1 : IntKind.i64.wrap (x1 * y2) = x1 * y2 := by rw [IntKind.wrap_i64]; have := GB.out; omega
      have w2' : IntKind.i64.wrap (x2 * y1) = x2 * y1 := by rw [IntKind.wrap_i64]; have := GB.out; omega
      have w3 : IntKind.i64.wrap (s + x1 * y2) = s + x1 * y2 := by rw [IntKind.wrap_i64]; have := GB.out; omega
      have w4 : IntKind.i64.wrap (s + x1 * y2 - x2 * y1) = s + x1 * y2 - x2 * y1 := by rw [IntKind.wrap_i64]; have := GB.out; omega
      go_wp2_with fail
      have kq0_0 := ExtBy.cell (W := w2) kz0 kc0_0; have kq0_1 := ExtBy.cell (W := w2) kz0 kc0_1; refine wp_region_quietE (by kernel_rfl) (by kernel_rfl) ?_; (repeat (refine WQ.step (fun K hK => ?_); have HK := hide hK; clear hK; go_simp; refine HK.out _ ?_; clear HK K)); refine WQ.done ?_; intro w5 hw'; obtain ⟨⟨_, hw5⟩, hw''⟩ := hw'; subst hw''; clear kq0_0 kq0_1; have HT := hide (HT.out.ext hw5); have Hw5 := hide hw5; clear hw5 kz0 kf0 kc0_0 kc0_1 kE; have kT := HT.out; simp only [Tr, Bx, CellsAt, Nat.reduceAdd, Nat.zero_add, and_true] at kT; obtain ⟨⟨kz0, kf0, kc0_0, kc0_1⟩, kE⟩ := kT
      clear k1 k2 k3 k4 w1 w2' w3 w4
      have HE5 := hide (HE.out.trans (Hw2.out.trans Hw5.out))
      have HS := hide (show s + x1 * y2 - x2 * y1 = areaL N E (l.take (k + 1)) by rw [HT1.out, HCR.out]; omega)
      go_wp2_with fail
      go_roundw
      case rel => exact ⟨k + 1, by omega, by go_num, by rw [HS.out], HE5⟩
      case measure => simp [intOf]; omega
    · obtain rfl : k = l.length := by omega
      have e := List.take_length (l := l)
      rw [e]
      clear e
      go_wp2_with fail
      go_ret
      exact ⟨rfl, kE⟩
end Go.Proofs.Ytkgbilbicdiadaa
