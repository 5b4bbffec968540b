/- Words and walks for the law FnMatches, a part of them. No condition but that the arguments lie in memory. -/
import Derived.Test.YtabgcpoaepafjaaGreatU2
import Derived.Test.YtabgcpoaepafjaaGreatU3
import Derived.Test.YtabgcpoaepafjaaGreatU10
import Derived.Test.YtabgcpoaepafjaaGreatU11
import Derived.Lib.SliceRun
set_option linter.unusedVariables false
set_option linter.unusedSimpArgs false
namespace Go.Proofs.YtabgcpoaepafjaaGreat
open Go.RowKit
theorem area_take {N E : List P2} {l : List Nat} {k : Nat} (h : k < l.length) : areaL N E (l.take (k + 1)) = areaL N E (l.take k) + cross2 N E l[k] := by
  unfold areaL
  rw [List.take_succ_eq_append_getElem h, List.map_append, List.sum_append_int]
  simp
theorem area_in {N E : List P2} (hok : WinOk N E) {l : List Nat} (hl : ∀ d ∈ l, d < 2 * E.length) : -(400 * (l.length : Int)) ≤ areaL N E l ∧ areaL N E l ≤ 400 * l.length := by
  induction l with
  | nil => simp [areaL]
  | cons d l ih =>
    have h1 := ih fun x hx => hl x (List.mem_cons_of_mem _ hx)
    have h2 := hok.cross_in (hl d (by simp))
    have e : areaL N E (d :: l) = cross2 N E d + areaL N E l := by simp [areaL]
    rw [e, List.length_cons]
    push_cast
    omega
set_option maxRecDepth 20000 in
set_option maxHeartbeats 4000000 in
theorem areaOf_any (N E : List P2) (A B A3 : Option Addr) (c c' c3 : Nat) (l : List Nat) (w : World) (hw : WR w N E A B c c') (hok : WinOk N E) (hl : ∀ d ∈ l, d < 2 * E.length) (hl40 : l.length ≤ 40) (hrl : Rds w 1 A3 l.length (encN l)) :
    Calls Tryz.prog 101 #[.agg #[.slice A N.length c, .slice B E.length c'], .slice A3 l.length c3] w fun e w' => e = .returned (.int .i64 (areaL N E l)) ∧ Ext w w' := by
  have hpos : 0 < N.length := hok.n.1
  obtain ⟨bN, oN, hA, hrest⟩ := R2.at_ hw.hr hpos
  clear hrest
  subst hA
  have HW := hide hw
  have HK := hide hok
  have HL := hide hl
  have HRL := hide hrl
  have hm := hok.m
  clear hw hok hl hrl
  
  go_enter Tryz.func101, Tryz.ntmps101
  go_wp2_with fail
  obtain ⟨w0, hw⟩ : ∃ w1, w1 = w.alloc (Obj.cells #[Value.slice (some ⟨bN, oN, none⟩) N.length c, Value.slice B E.length c'] 27) := ⟨_, rfl⟩; rw [← hw]; have kT : Tr [(w.heap.size, [.slice (some ⟨bN, oN, none⟩) N.length c, .slice B E.length c'])] w w0 := (by rw [hw]; exact ⟨by (first | (simp [Bx, CellsAt, go_sem, *]; done) | (simp [Bx, CellsAt, go_sem, *]; omega)), by (repeat (first | exact kE | exact Ext.refl _ | apply Ext.alloc | apply Ext.drewN | apply Ext.drew | apply Ext.set0 | apply Ext.set1 | apply Ext.set2 | apply Ext.set3 | (refine Ext.setk ?_ (by omega) _) | (apply Ext.snoc; assumption)))⟩); have HT := hide kT; clear hw kT; have kT := HT.out; simp only [Tr, Bx, CellsAt, Nat.reduceAdd, Nat.zero_add, and_true] at kT; obtain ⟨⟨kz0, kf0, kc0_0, kc0_1⟩, kE⟩ := kT
  clear kz0 kf0 kc0_0 kc0_1 kE
  go_loopw [5, 12] (fun v i wr => ∃ k : Nat, k ≤ l.length ∧ i = .int .i64 k ∧ v = .int .i64 (areaL N E (l.take k)) ∧ Hid (Ext w0 wr)) (fun _ i _ => l.length - (intOf i).toNat)
  case atStart => exact ⟨0, Nat.zero_le _, rfl, rfl, hide (Ext.refl _)⟩
  case round =>
    obtain ⟨k, hk, rfl, rfl, HE⟩ := hrel
    have hE := HE.out
    have HT := hide (HT.out.ext hE); clear hE; have kT := HT.out; simp only [Tr, Bx, CellsAt, Nat.reduceAdd, Nat.zero_add, and_true] at kT; obtain ⟨⟨kz0, kf0, kc0_0, kc0_1⟩, kE⟩ := kT
    by_cases hlt : k < l.length
    · have hlz : (k : Int) < (l.length : Int) := by omega
      obtain ⟨bL, oL, rfl, hbL, cl⟩ := RN.at_ (HRL.out.ext kE) rfl hlt
      have hdm := HL.out _ (List.getElem_mem hlt)
      have HT1 := hide (area_take (N := N) (E := E) hlt)
      have har := area_in HK.out (l := l.take k) fun d hd => HL.out d (List.mem_of_mem_take hd)
      rw [List.length_take, Nat.min_eq_left (by omega)] at har
      obtain ⟨s, hs⟩ : ∃ s, areaL N E (l.take k) = s := ⟨_, rfl⟩
      rw [hs] at HT1 har ⊢
      obtain ⟨d, hd⟩ : ∃ d, l[k] = d := ⟨_, rfl⟩
      rw [hd] at hdm HT1 cl
      clear hs hd
      obtain ⟨p, hp⟩ := Int.eq_ofNat_of_zero_le (HK.out.ends hdm).1
      obtain ⟨q, hq⟩ := Int.eq_ofNat_of_zero_le (HK.out.ends (twin_lt hdm)).1
      have hpl : p < N.length := by have := (HK.out.ends hdm).2.1; omega
      have hql : q < N.length := by have := (HK.out.ends (twin_lt hdm)).2.1; omega
      obtain ⟨b', o', hA', hbN, cp0, cp1⟩ := R2.at_ (HW.out.hr.ext kE) hpl
      injection hA' with hA'
      injection hA' with hA1 hA2 _
      subst hA1 hA2
      obtain ⟨b', o', hA', _, cq0, cq1⟩ := R2.at_ (HW.out.hr.ext kE) hql
      injection hA' with hA'
      injection hA' with hA1 hA2 _
      subst hA1 hA2
      have g1 := nodeOk_iff.1 (HK.out.ends hdm).2.2
      have g2 := nodeOk_iff.1 (HK.out.ends (twin_lt hdm)).2.2
      have HCR := hide (show cross2 N E d = (N[p].1 * N[q].2 - N[p].2 * N[q].1) by unfold cross2; rw [hp, hq, at2_eq hpl, at2_eq hql])
      rw [hp, at2_eq hpl] at g1
      rw [hq, at2_eq hql] at g2
      obtain ⟨⟨x1, x2⟩, nx⟩ : ∃ r : P2, N[p] = r := ⟨_, rfl⟩
      obtain ⟨⟨y1, y2⟩, ny⟩ : ∃ r : P2, N[q] = r := ⟨_, rfl⟩
      rw [nx] at cp0 cp1 g1 HCR
      rw [ny] at cq0 cq1 g2 HCR
      dsimp only at cp0 cp1 cq0 cq1 g1 g2
      have m1 := mul_in (x := x1) (y := y2) (m := 20) (n := 20) (by omega) (by omega) (by omega) (by omega)
      have m2 := mul_in (x := x2) (y := y1) (m := 20) (n := 20) (by omega) (by omega) (by omega) (by omega)
      have HP := hide hp
      have HQ := hide hq
      have i2 : (p : Int) < (N.length : Int) := by omega
      have i4 : (q : Int) < (N.length : Int) := by omega
      have H1 : Hid (∀ W, Ext wr W → Calls Tryz.prog 120 #[.agg #[.slice (some ⟨bN, oN, none⟩) N.length c, .slice B E.length c'], .int .i64 (d : Nat)] W fun x w' => x = .returned (.int .i64 (p : Nat)) ∧ Ext W w') := hide (fun W hE => by
        have := dartFrom_any N E (some ⟨bN, oN, none⟩) B c c' d W (HW.out.ext (kE.trans hE)) hdm
        rw [hp] at this
        exact this)
      have H2 : Hid (∀ W, Ext wr W → Calls Tryz.prog 120 #[.agg #[.slice (some ⟨bN, oN, none⟩) N.length c, .slice B E.length c'], .int .i64 (twin d : Nat)] W fun x w' => x = .returned (.int .i64 (q : Nat)) ∧ Ext W w') := hide (fun W hE => by
        have := dartFrom_any N E (some ⟨bN, oN, none⟩) B c c' (twin d) W (HW.out.ext (kE.trans hE)) (twin_lt hdm)
        rw [hq] at this
        exact this)
      have xd := xor_twin d (by omega)
      clear hp hq nx ny
      generalize twin d = td at *
      have k1 := ExtBy.cell (W := wr) hbN cp0
      have k2 := ExtBy.cell (W := wr) hbN cp1
      have k3 := ExtBy.cell (W := wr) hbN cq0
      have k4 := ExtBy.cell (W := wr) hbN cq1
      have k5 := ExtBy.cell (W := wr) kz0 kc0_0
      have k6 := ExtBy.cell (W := wr) kz0 kc0_1
      have GB := hide (And.intro g1 (And.intro g2 (And.intro m1 (And.intro m2 har))))
      clear g1 g2 m1 m2 har cp0 cp1 cq0 cq1
      go_wp2_with fail
      clear cl
      refine wp_region_MEl 2 46 (fun k => ([15, 16] : List Nat).getD k 0) (fun k => ([17, 18] : List Nat).getD k 0) [.plain, .plain, .plain, .plain, .plain, .plain, .plain, .plain, .plain, .plain, .plain, .plain, .plain, .plain, .plain, .alloc 0, .alloc 1, .store 0, .store 1] (fun k => ([84, 84] : List Nat).getD k 0) (fun k => ([#[.int .i64 0, .int .i64 0], #[.int .i64 0, .int .i64 0]] : List (Array Value)).getD k #[]) (fun k => ([#[.int .i64 x1, .int .i64 x2], #[.int .i64 y1, .int .i64 y2]] : List (Array Value)).getD k #[]) (fun k => ([some 8, some 9] : List (Option Nat)).getD k none) (by kernel_rfl) (by kernel_rfl) (by kernel_rfl) (by kernel_rfl) (by kernel_rfl) rfl (by kernel_rfl) (by kernel_rfl) (by kernel_rfl) ?_
      (refine WMs.step (fun K hK => ?_); have HK := hide hK; clear hK; go_simp; refine HK.out _ ?_; clear HK K)
      (refine WMs.step (fun K hK => ?_); have HK := hide hK; clear hK; go_simp; refine HK.out _ ?_; clear HK K)
      (refine WMs.step (fun K hK => ?_); have HK := hide hK; clear hK; go_simp; refine HK.out _ ?_; clear HK K)
      (refine WMs.step (fun K hK => ?_); have HK := hide hK; clear hK; go_simp; refine HK.out _ ?_; clear HK K)
      (refine WMs.step (fun K hK => ?_); have HK := hide hK; clear hK; go_simp; apply Exists.intro; refine ⟨fun p => ?_, HK.out _ ?_⟩; (go_at_call 120; exact H1.out _ p.h); clear HK K)
      (refine WMs.step (fun K hK => ?_); have HK := hide hK; clear hK; go_simp; refine HK.out _ ?_; clear HK K)
      (refine WMs.step (fun K hK => ?_); have HK := hide hK; clear hK; go_simp; refine HK.out _ ?_; clear HK K)
      (refine WMs.step (fun K hK => ?_); have HK := hide hK; clear hK; go_simp; refine HK.out _ ?_; clear HK K)
      (refine WMs.step (fun K hK => ?_); have HK := hide hK; clear hK; go_simp; refine HK.out _ ?_; clear HK K)
      (refine WMs.step (fun K hK => ?_); have HK := hide hK; clear hK; go_simp; refine HK.out _ ?_; clear HK K)
      (refine WMs.step (fun K hK => ?_); have HK := hide hK; clear hK; go_simp; refine HK.out _ ?_; clear HK K)
      (refine WMs.step (fun K hK => ?_); have HK := hide hK; clear hK; go_simp; refine HK.out _ ?_; clear HK K)
      (refine WMs.step (fun K hK => ?_); have HK := hide hK; clear hK; go_simp; apply Exists.intro; refine ⟨fun p => ?_, HK.out _ ?_⟩; (go_at_call 120; exact H2.out _ p.h); clear HK K)
      (refine WMs.step (fun K hK => ?_); have HK := hide hK; clear hK; go_simp; refine HK.out _ ?_; clear HK K)
      (refine WMs.step (fun K hK => ?_); have HK := hide hK; clear hK; go_simp; refine HK.out _ ?_; clear HK K)
      refine WMs.made (by intro a' w'; go_simp) ?_
      refine WMs.made (by intro a' w'; go_simp) ?_
      refine WMs.put (by intro w' b hh; obtain ⟨hc0, hc1, hf, hz⟩ := two_cells hh; refine ⟨_, ?_, put_two hh⟩; go_simp) ?_
      refine WMs.put (by intro w' b hh; obtain ⟨hc0, hc1, hf, hz⟩ := two_cells hh; refine ⟨_, ?_, put_two hh⟩; go_simp) ?_
      refine WMs.done ?_
      intro B w2 hE hB
      obtain ⟨⟨_, hB0, hC0⟩, hB1, hC1⟩ := hB
      obtain ⟨B0, hb0⟩ : ∃ b, B 0 = b := ⟨_, rfl⟩
      rw [hb0] at hB0 hC0
      obtain ⟨B1, hb1⟩ : ∃ b, B 1 = b := ⟨_, rfl⟩
      rw [hb1] at hB1 hC1
      simp only [putB, hb0, hb1, List.getD_cons_zero, List.getD_cons_succ]
      clear hb0 hb1
      go_simp
      clear k1 k2 k3 k4 k5 k6
      have HE5 := hide (HE.out.trans hE)
      obtain ⟨a0, a1, _, _⟩ := two_cells hC0
      obtain ⟨b0, b1, _, _⟩ := two_cells hC1
      have w1 : IntKind.i64.wrap (x1 * y2) = x1 * y2 := by rw [IntKind.wrap_i64]; have := GB.out; omega
      have w2' : IntKind.i64.wrap (x2 * y1) = x2 * y1 := by rw [IntKind.wrap_i64]; have := GB.out; omega
      have w3 : IntKind.i64.wrap (x1 * y2 - x2 * y1) = x1 * y2 - x2 * y1 := by rw [IntKind.wrap_i64]; have := GB.out; omega
      have w4 : IntKind.i64.wrap (s + (x1 * y2 - x2 * y1)) = s + (x1 * y2 - x2 * y1) := by rw [IntKind.wrap_i64]; have := GB.out; omega
      clear hC0 hC1 hE hB0 hB1
      go_wp2_with fail
      go_roundw
      case rel => exact ⟨k + 1, by omega, by go_num, by rw [HT1.out, HCR.out], HE5⟩
      case measure => simp [intOf]; omega
    · obtain rfl : k = l.length := by omega
      have e := List.take_length (l := l)
      rw [e]
      clear e
      go_wp2_with fail
      go_ret
      exact ⟨rfl, kE⟩
set_option maxRecDepth 20000 in
set_option maxHeartbeats 4000000 in
theorem l06Area_any (N E : List P2) (A B A3 : Option Addr) (c c' c3 : Nat) (l : List Nat) (w : World) (hw : WR w N E A B c c') (hok : WinOk N E) (hl : ∀ d ∈ l, d < 2 * E.length) (hl40 : l.length ≤ 40) (hrl : Rds w 1 A3 l.length (encN l)) :
    Calls Tryz.prog 68 #[.agg #[.slice A N.length c, .slice B E.length c'], .slice A3 l.length c3] w fun e w' => e = .returned (.int .i64 (areaL N E l)) ∧ Ext w w' := by
  have hpos : 0 < N.length := hok.n.1
  obtain ⟨bN, oN, hA, hrest⟩ := R2.at_ hw.hr hpos
  clear hrest
  subst hA
  have HW := hide hw
  have HK := hide hok
  have HL := hide hl
  have HRL := hide hrl
  have hm := hok.m
  clear hw hok hl hrl
  
  go_enter Tryz.func68, Tryz.ntmps68
  go_wp2_with fail
  obtain ⟨w0, hw⟩ : ∃ w1, w1 = w.alloc (Obj.cells #[Value.slice (some ⟨bN, oN, none⟩) N.length c, Value.slice B E.length c'] 27) := ⟨_, rfl⟩; rw [← hw]; have kT : Tr [(w.heap.size, [.slice (some ⟨bN, oN, none⟩) N.length c, .slice B E.length c'])] w w0 := (by rw [hw]; exact ⟨by (first | (simp [Bx, CellsAt, go_sem, *]; done) | (simp [Bx, CellsAt, go_sem, *]; omega)), by (repeat (first | exact kE | exact Ext.refl _ | apply Ext.alloc | apply Ext.drewN | apply Ext.drew | apply Ext.set0 | apply Ext.set1 | apply Ext.set2 | apply Ext.set3 | (refine Ext.setk ?_ (by omega) _) | (apply Ext.snoc; assumption)))⟩); have HT := hide kT; clear hw kT; have kT := HT.out; simp only [Tr, Bx, CellsAt, Nat.reduceAdd, Nat.zero_add, and_true] at kT; obtain ⟨⟨kz0, kf0, kc0_0, kc0_1⟩, kE⟩ := kT
  clear kz0 kf0 kc0_0 kc0_1 kE
  go_loopw [5, 6] (fun v i wr => ∃ k : Nat, k ≤ l.length ∧ i = .int .i64 k ∧ v = .int .i64 (areaL N E (l.take k)) ∧ Hid (Ext w0 wr)) (fun _ i _ => l.length - (intOf i).toNat)
  case atStart => exact ⟨0, Nat.zero_le _, rfl, rfl, hide (Ext.refl _)⟩
  case round =>
    obtain ⟨k, hk, rfl, rfl, HE⟩ := hrel
    have hE := HE.out
    have HT := hide (HT.out.ext hE); clear hE; have kT := HT.out; simp only [Tr, Bx, CellsAt, Nat.reduceAdd, Nat.zero_add, and_true] at kT; obtain ⟨⟨kz0, kf0, kc0_0, kc0_1⟩, kE⟩ := kT
    by_cases hlt : k < l.length
    · have hlz : (k : Int) < (l.length : Int) := by omega
      obtain ⟨bL, oL, rfl, hbL, cl⟩ := RN.at_ (HRL.out.ext kE) rfl hlt
      have hdm := HL.out _ (List.getElem_mem hlt)
      have HT1 := hide (area_take (N := N) (E := E) hlt)
      have har := area_in HK.out (l := l.take k) fun d hd => HL.out d (List.mem_of_mem_take hd)
      rw [List.length_take, Nat.min_eq_left (by omega)] at har
      obtain ⟨s, hs⟩ : ∃ s, areaL N E (l.take k) = s := ⟨_, rfl⟩
      rw [hs] at HT1 har ⊢
      obtain ⟨d, hd⟩ : ∃ d, l[k] = d := ⟨_, rfl⟩
      rw [hd] at hdm HT1 cl
      clear hs hd
      obtain ⟨p, hp⟩ := Int.eq_ofNat_of_zero_le (HK.out.ends hdm).1
      obtain ⟨q, hq⟩ := Int.eq_ofNat_of_zero_le (HK.out.ends (twin_lt hdm)).1
      have hpl : p < N.length := by have := (HK.out.ends hdm).2.1; omega
      have hql : q < N.length := by have := (HK.out.ends (twin_lt hdm)).2.1; omega
      obtain ⟨b', o', hA', hbN, cp0, cp1⟩ := R2.at_ (HW.out.hr.ext kE) hpl
      injection hA' with hA'
      injection hA' with hA1 hA2 _
      subst hA1 hA2
      obtain ⟨b', o', hA', _, cq0, cq1⟩ := R2.at_ (HW.out.hr.ext kE) hql
      injection hA' with hA'
      injection hA' with hA1 hA2 _
      subst hA1 hA2
      have g1 := nodeOk_iff.1 (HK.out.ends hdm).2.2
      have g2 := nodeOk_iff.1 (HK.out.ends (twin_lt hdm)).2.2
      have HCR := hide (show cross2 N E d = (N[p].1 * N[q].2 - N[p].2 * N[q].1) by unfold cross2; rw [hp, hq, at2_eq hpl, at2_eq hql])
      rw [hp, at2_eq hpl] at g1
      rw [hq, at2_eq hql] at g2
      obtain ⟨⟨x1, x2⟩, nx⟩ : ∃ r : P2, N[p] = r := ⟨_, rfl⟩
      obtain ⟨⟨y1, y2⟩, ny⟩ : ∃ r : P2, N[q] = r := ⟨_, rfl⟩
      rw [nx] at cp0 cp1 g1 HCR
      rw [ny] at cq0 cq1 g2 HCR
      dsimp only at cp0 cp1 cq0 cq1 g1 g2
      have m1 := mul_in (x := x1) (y := y2) (m := 20) (n := 20) (by omega) (by omega) (by omega) (by omega)
      have m2 := mul_in (x := x2) (y := y1) (m := 20) (n := 20) (by omega) (by omega) (by omega) (by omega)
      have HP := hide hp
      have HQ := hide hq
      have i2 : (p : Int) < (N.length : Int) := by omega
      have i4 : (q : Int) < (N.length : Int) := by omega
      have HC := fun r : ExtBy wr => l05Ends_any N E (some ⟨bN, oN, none⟩) B c c' d r.w (HW.out.ext (kE.trans r.h)) hdm
      rw [hp, hq] at HC
      have HC := hide HC
      clear hp hq nx ny
      have GB := hide (And.intro g1 (And.intro g2 (And.intro m1 (And.intro m2 har))))
      have kl := ExtBy.cell (W := wr) hbL cl
      clear g1 g2 m1 m2 har cl
      go_wp2_with fail
      have kq0_0 := ExtBy.cell (W := wr) kz0 kc0_0; have kq0_1 := ExtBy.cell (W := wr) kz0 kc0_1; refine wp_region_quietE (by kernel_rfl) (by kernel_rfl) ?_; (repeat (refine WQ.step (fun K hK => ?_); have HK := hide hK; clear hK; go_simp; refine HK.out _ ?_; clear HK K)); (refine WQ.step (fun K hK => ?_); have HK := hide hK; clear hK; go_simp; apply Exists.intro; refine ⟨fun _ => ?_, HK.out _ ?_⟩; (go_at_call 97; refine extby_of (HC.out _)); clear HK K); (repeat (refine WQ.step (fun K hK => ?_); have HK := hide hK; clear hK; go_simp; refine HK.out _ ?_; clear HK K)); refine WQ.done ?_; intro w2 hw'; obtain ⟨⟨_, hw2⟩, hw''⟩ := hw'; subst hw''; clear kq0_0 kq0_1; have HT := hide (HT.out.ext hw2); have Hw2 := hide hw2; clear hw2 kz0 kf0 kc0_0 kc0_1 kE; have kT := HT.out; simp only [Tr, Bx, CellsAt, Nat.reduceAdd, Nat.zero_add, and_true] at kT; obtain ⟨⟨kz0, kf0, kc0_0, kc0_1⟩, kE⟩ := kT
      have cp0 := (Hw2.out.facts.1 _ _ hbN).trans cp0
      have cp1 := (Hw2.out.facts.1 _ _ hbN).trans cp1
      have cq0 := (Hw2.out.facts.1 _ _ hbN).trans cq0
      have cq1 := (Hw2.out.facts.1 _ _ hbN).trans cq1
      have hbN := Hw2.out.facts.2.2 _ hbN
      have k1 := ExtBy.cell (W := w2) hbN cp0
      have k2 := ExtBy.cell (W := w2) hbN cp1
      have k3 := ExtBy.cell (W := w2) hbN cq0
      have k4 := ExtBy.cell (W := w2) hbN cq1
      clear cp0 cp1 cq0 cq1 kl
      have w1 : IntKind.i64.wrap (x1 * y2) = x1 * y2 := by rw [IntKind.wrap_i64]; have := GB.out; omega
      have w2' : IntKind.i64.wrap (x2 * y1) = x2 * y1 := by rw [IntKind.wrap_i64]; have := GB.out; omega
      have w3 : IntKind.i64.wrap (s + x1 * y2) = s + x1 * y2 := by rw [IntKind.wrap_i64]; have := GB.out; omega
      have w4 : IntKind.i64.wrap (s + x1 * y2 - x2 * y1) = s + x1 * y2 - x2 * y1 := by rw [IntKind.wrap_i64]; have := GB.out; omega
      go_wp2_with fail
      have kq0_0 := ExtBy.cell (W := w2) kz0 kc0_0; have kq0_1 := ExtBy.cell (W := w2) kz0 kc0_1; refine wp_region_quietE (by kernel_rfl) (by kernel_rfl) ?_; (repeat (refine WQ.step (fun K hK => ?_); have HK := hide hK; clear hK; go_simp; refine HK.out _ ?_; clear HK K)); refine WQ.done ?_; intro w5 hw'; obtain ⟨⟨_, hw5⟩, hw''⟩ := hw'; subst hw''; clear kq0_0 kq0_1; have HT := hide (HT.out.ext hw5); have Hw5 := hide hw5; clear hw5 kz0 kf0 kc0_0 kc0_1 kE; have kT := HT.out; simp only [Tr, Bx, CellsAt, Nat.reduceAdd, Nat.zero_add, and_true] at kT; obtain ⟨⟨kz0, kf0, kc0_0, kc0_1⟩, kE⟩ := kT
      clear k1 k2 k3 k4 w1 w2' w3 w4
      have HE5 := hide (HE.out.trans (Hw2.out.trans Hw5.out))
      have HS := hide (show s + x1 * y2 - x2 * y1 = areaL N E (l.take (k + 1)) by rw [HT1.out, HCR.out]; omega)
      go_wp2_with fail
      go_roundw
      case rel => exact ⟨k + 1, by omega, by go_num, by rw [HS.out], HE5⟩
      case measure => simp [intOf]; omega
    · obtain rfl : k = l.length := by omega
      have e := List.take_length (l := l)
      rw [e]
      clear e
      go_wp2_with fail
      go_ret
      exact ⟨rfl, kE⟩
end Go.Proofs.YtabgcpoaepafjaaGreat
namespace Go.Proofs.YtabgcpoaepafjaaGreat
open Go.RowKit
noncomputable def outerI (N E : List P2) : Int := if (fcs N E).findIdx (fun l => decide (areaL N E l ≤ 0)) < (fcs N E).length then ((fcs N E).findIdx (fun l => decide (areaL N E l ≤ 0)) : Nat) else -1
theorem outer_at {N E : List P2} {k : Nat} (hk : k < (fcs N E).length) (h : areaL N E (fcs N E)[k] ≤ 0) (hn : ∀ j (hj : j < (fcs N E).length), j < k → 0 < areaL N E (fcs N E)[j]) : outerI N E = k := by
  have e : (fcs N E).findIdx (fun l => decide (areaL N E l ≤ 0)) = k := by
    rw [List.findIdx_eq hk]
    exact ⟨by simpa using h, fun j hj => by have := hn j (by omega) hj; simp; omega⟩
  unfold outerI
  rw [e, if_pos hk]
theorem outer_none {N E : List P2} (hn : ∀ j (hj : j < (fcs N E).length), 0 < areaL N E (fcs N E)[j]) : outerI N E = -1 := by
  unfold outerI
  rw [if_neg]
  intro h
  have := List.findIdx_getElem (w := h)
  have h2 := hn _ h
  simp at this
  omega
theorem fcs_whole {N E : List P2} (h : 0 < (fcs N E).length) : wholeB N E = true := by
  cases e : wholeB N E with
  | true => rfl
  | false => rw [fcs_no e] at h; simp at h
theorem fcs_at {N E : List P2} {k : Nat} (hk : k < (fcs N E).length) : WinOk N E ∧ (∀ d ∈ (fcs N E)[k], d < 2 * E.length) ∧ (fcs N E)[k].length ≤ 40 ∧ -16000 ≤ areaL N E (fcs N E)[k] ∧ areaL N E (fcs N E)[k] ≤ 16000 := by
  have hw := fcs_whole (by omega : 0 < (fcs N E).length)
  have hok := (wholeB_iff.1 hw).1
  have hf := (fcs_facts hw).2.2.1 _ (List.getElem_mem hk)
  have hm := hok.m
  have ha := area_in hok hf.2.2
  refine ⟨hok, hf.2.2, by omega, by omega, by omega⟩
theorem fcs_len {N E : List P2} : (fcs N E).length ≤ 40 := by
  cases e : wholeB N E with
  | true => have := (fcs_facts e).2.1; have := (wholeB_iff.1 e).1.m; omega
  | false => rw [fcs_no e]; simp
set_option maxRecDepth 20000 in
set_option maxHeartbeats 4000000 in
theorem OuterFace_any (N E : List P2) (A B : Option Addr) (c c' : Nat) (w : World) (hw : WR w N E A B c c') :
    Calls Tryz.prog 61 #[.agg #[.slice A N.length c, .slice B E.length c']] w fun e w' => e = .returned (.int .i64 (outerI N E)) ∧ Ext w w' := by
  have HW := hide hw
  clear hw
  
  go_enter Tryz.func61, Tryz.ntmps61
  go_wp2_with fail
  obtain ⟨w0, hw⟩ : ∃ w1, w1 = w.alloc (Obj.cells #[Value.slice A N.length c, Value.slice B E.length c'] 27) := ⟨_, rfl⟩; rw [← hw]; have kT : Tr [(w.heap.size, [.slice A N.length c, .slice B E.length c'])] w w0 := (by rw [hw]; exact ⟨by (first | (simp [Bx, CellsAt, go_sem, *]; done) | (simp [Bx, CellsAt, go_sem, *]; omega)), by (repeat (first | exact kE | exact Ext.refl _ | apply Ext.alloc | apply Ext.drewN | apply Ext.drew | apply Ext.set0 | apply Ext.set1 | apply Ext.set2 | apply Ext.set3 | (refine Ext.setk ?_ (by omega) _) | (apply Ext.snoc; assumption)))⟩); have HT := hide kT; clear hw kT; have kT := HT.out; simp only [Tr, Bx, CellsAt, Nat.reduceAdd, Nat.zero_add, and_true] at kT; obtain ⟨⟨kz0, kf0, kc0_0, kc0_1⟩, kE⟩ := kT
  have HT0 := HT
  refine (FacesOf_any N E A B c c' _ (HW.out.ext kE)).mono ?_
  rintro e w5 ⟨A2, c2, rfl, _, _, hRT, hc2, hb5⟩
  have HR := hide hRT
  have HE5 := hide (kE.trans hb5)
  have hl40 := fcs_len (N := N) (E := E)
  have HF := hide (fun k hk => fcs_at (N := N) (E := E) (k := k) hk)
  have HO1 := hide (fun k hk h hn => outer_at (N := N) (E := E) (k := k) hk h hn)
  have HO2 := hide (fun hn => outer_none (N := N) (E := E) hn)
  have HT := hide (HT0.out.ext hb5)
  clear hRT hb5
  clear kz0 kf0 kc0_0 kc0_1 kE
  have kT := HT.out; simp only [Tr, Bx, CellsAt, Nat.reduceAdd, Nat.zero_add, and_true] at kT; obtain ⟨⟨kz0, kf0, kc0_0, kc0_1⟩, kE⟩ := kT
  obtain ⟨F, hF⟩ : ∃ F, fcs N E = F := ⟨_, rfl⟩
  rw [hF] at HR hl40 HF HO1 HO2 hc2 ⊢
  clear hF
  go_wp2_with fail
  clear kz0 kf0 kc0_0 kc0_1 kE
  go_loopw [8] (fun i wi => ∃ k : Nat, k ≤ F.length ∧ i = .int .i64 k ∧ Hid (∀ j (hj : j < F.length), j < k → 0 < areaL N E F[j]) ∧ Hid (Ext w5 wi)) (fun i _ => F.length - (intOf i).toNat)
  case atStart => exact ⟨0, Nat.zero_le _, rfl, hide (fun j _ hj => absurd hj (by omega)), hide (Ext.refl _)⟩
  case round =>
    obtain ⟨k, hk, rfl, hz, HE⟩ := hrel
    have hE := HE.out
    have HT := hide (HT.out.ext hE); clear hE; have kT := HT.out; simp only [Tr, Bx, CellsAt, Nat.reduceAdd, Nat.zero_add, and_true] at kT; obtain ⟨⟨kz0, kf0, kc0_0, kc0_1⟩, kE⟩ := kT
    by_cases hlt : k < F.length
    · have hlz : (k : Int) < (F.length : Int) := by omega
      obtain ⟨b, off, Ai, ci, rfl, hb, ch, hci, hri⟩ := (HR.out.ext HE.out).at_ hlt
      obtain ⟨hok, hld, hl4, _, _⟩ := HF.out k hlt
      have HA1 := hide (show areaL N E F[k] ≤ 0 → outerI N E = k from fun h => HO1.out k hlt h hz.out)
      have HA2 := hide (show 0 < areaL N E F[k] → ∀ j (hj : j < F.length), j < k + 1 → 0 < areaL N E F[j] from fun h j hj hjk => by
        rcases Nat.lt_or_ge j k with a | a
        · exact hz.out j hj a
        · have e : j = k := by omega
          subst e
          exact h)
      have HC := hide (fun (W : World) (hE : Ext wr W) => areaOf_any N E A B Ai c c' ci F[k] W (HW.out.ext (kE.trans hE)) hok hld hl4 (hri.ext hE))
      obtain ⟨l, hl⟩ : ∃ l, F[k] = l := ⟨_, rfl⟩
      rw [hl] at HC HA1 HA2 ch
      clear hl hok hld hl4 hri hci
      obtain ⟨a, ha⟩ : ∃ a, areaL N E l = a := ⟨_, rfl⟩
      rw [ha] at HC HA1 HA2
      clear ha
      by_cases h0 : a ≤ 0
      · go_wp2_with (go_at_call 101; refine (HC.out _ (Ext.refl _)).mono ?_; rintro e w7 ⟨rfl, hb7⟩)
        have HB7 := hide hb7
        clear hb7
        go_wp2_with fail
        go_ret
        exact ⟨ret_int (HA1.out h0).symm, kE.trans HB7.out⟩
      · have H0 := hide (show 0 < a by omega)
        have h0' : ¬ a ≤ 0 := h0
        go_wp2_with (go_at_call 101; refine (HC.out _ (Ext.refl _)).mono ?_; rintro e w7 ⟨rfl, hb7⟩)
        have HE7 := hide (HE.out.trans hb7)
        clear hb7 h0 h0'
        go_wp2_with fail
        go_roundw
        case rel => exact ⟨k + 1, by omega, by go_num, hide (HA2.out H0.out), HE7⟩
        case measure => simp [intOf]; omega
    · obtain rfl : k = F.length := by omega
      go_wp2_with fail
      go_ret
      exact ⟨ret_int (HO2.out fun j hj => hz.out j hj hj).symm, kE⟩
set_option maxRecDepth 20000 in
set_option maxHeartbeats 4000000 in
theorem sOuterFace_any (N E : List P2) (A B : Option Addr) (c c' : Nat) (w : World) (hw : WR w N E A B c c') :
    Calls Tryz.prog 25 #[.agg #[.slice A N.length c, .slice B E.length c']] w fun e w' => e = .returned (.int .i64 (outerI N E)) ∧ Ext w w' := by
  have HW := hide hw
  clear hw
  
  go_enter Tryz.func25, Tryz.ntmps25
  go_wp2_with fail
  obtain ⟨w0, hw⟩ : ∃ w1, w1 = w.alloc (Obj.cells #[Value.slice A N.length c, Value.slice B E.length c'] 27) := ⟨_, rfl⟩; rw [← hw]; have kT : Tr [(w.heap.size, [.slice A N.length c, .slice B E.length c'])] w w0 := (by rw [hw]; exact ⟨by (first | (simp [Bx, CellsAt, go_sem, *]; done) | (simp [Bx, CellsAt, go_sem, *]; omega)), by (repeat (first | exact kE | exact Ext.refl _ | apply Ext.alloc | apply Ext.drewN | apply Ext.drew | apply Ext.set0 | apply Ext.set1 | apply Ext.set2 | apply Ext.set3 | (refine Ext.setk ?_ (by omega) _) | (apply Ext.snoc; assumption)))⟩); have HT := hide kT; clear hw kT; have kT := HT.out; simp only [Tr, Bx, CellsAt, Nat.reduceAdd, Nat.zero_add, and_true] at kT; obtain ⟨⟨kz0, kf0, kc0_0, kc0_1⟩, kE⟩ := kT
  have HT0 := HT
  refine (sFacesOf_any N E A B c c' _ (HW.out.ext kE)).mono ?_
  rintro e w5 ⟨A2, c2, rfl, hRT, hc2, hb5⟩
  have HR := hide hRT
  have HE5 := hide (kE.trans hb5)
  have hl40 := fcs_len (N := N) (E := E)
  have HF := hide (fun k hk => fcs_at (N := N) (E := E) (k := k) hk)
  have HO1 := hide (fun k hk h hn => outer_at (N := N) (E := E) (k := k) hk h hn)
  have HO2 := hide (fun hn => outer_none (N := N) (E := E) hn)
  have HT := hide (HT0.out.ext hb5)
  clear hRT hb5
  clear kz0 kf0 kc0_0 kc0_1 kE
  have kT := HT.out; simp only [Tr, Bx, CellsAt, Nat.reduceAdd, Nat.zero_add, and_true] at kT; obtain ⟨⟨kz0, kf0, kc0_0, kc0_1⟩, kE⟩ := kT
  obtain ⟨F, hF⟩ : ∃ F, fcs N E = F := ⟨_, rfl⟩
  rw [hF] at HR hl40 HF HO1 HO2 hc2 ⊢
  clear hF
  go_wp2_with fail
  clear kz0 kf0 kc0_0 kc0_1 kE
  go_loopw [4] (fun i wi => ∃ k : Nat, k ≤ F.length ∧ i = .int .i64 k ∧ Hid (∀ j (hj : j < F.length), j < k → 0 < areaL N E F[j]) ∧ Hid (Ext w5 wi)) (fun i _ => F.length - (intOf i).toNat)
  case atStart => exact ⟨0, Nat.zero_le _, rfl, hide (fun j _ hj => absurd hj (by omega)), hide (Ext.refl _)⟩
  case round =>
    obtain ⟨k, hk, rfl, hz, HE⟩ := hrel
    have hE := HE.out
    have HT := hide (HT.out.ext hE); clear hE; have kT := HT.out; simp only [Tr, Bx, CellsAt, Nat.reduceAdd, Nat.zero_add, and_true] at kT; obtain ⟨⟨kz0, kf0, kc0_0, kc0_1⟩, kE⟩ := kT
    by_cases hlt : k < F.length
    · have hlz : (k : Int) < (F.length : Int) := by omega
      obtain ⟨b, off, Ai, ci, rfl, hb, ch, hci, hri⟩ := (HR.out.ext HE.out).at_ hlt
      obtain ⟨hok, hld, hl4, _, _⟩ := HF.out k hlt
      have HA1 := hide (show areaL N E F[k] ≤ 0 → outerI N E = k from fun h => HO1.out k hlt h hz.out)
      have HA2 := hide (show 0 < areaL N E F[k] → ∀ j (hj : j < F.length), j < k + 1 → 0 < areaL N E F[j] from fun h j hj hjk => by
        rcases Nat.lt_or_ge j k with a | a
        · exact hz.out j hj a
        · have e : j = k := by omega
          subst e
          exact h)
      have HC := hide (fun (W : World) (hE : Ext wr W) => l06Area_any N E A B Ai c c' ci F[k] W (HW.out.ext (kE.trans hE)) hok hld hl4 (hri.ext hE))
      obtain ⟨l, hl⟩ : ∃ l, F[k] = l := ⟨_, rfl⟩
      rw [hl] at HC HA1 HA2 ch
      clear hl hok hld hl4 hri hci
      obtain ⟨a, ha⟩ : ∃ a, areaL N E l = a := ⟨_, rfl⟩
      rw [ha] at HC HA1 HA2
      clear ha
      have qh := ExtBy.cell (W := wr) hb ch
      go_wp2_with fail
      have kq0_0 := ExtBy.cell (W := wr) kz0 kc0_0; have kq0_1 := ExtBy.cell (W := wr) kz0 kc0_1; refine wp_region_quietE (by kernel_rfl) (by kernel_rfl) ?_; (repeat (refine WQ.step (fun K hK => ?_); have HK := hide hK; clear hK; go_simp; refine HK.out _ ?_; clear HK K)); (refine WQ.step (fun K hK => ?_); have HK := hide hK; clear hK; go_simp; apply Exists.intro; refine ⟨fun _ => ?_, HK.out _ ?_⟩; (go_at_call 68; refine extby_of (HC.out _ (ExtBy.h _))); clear HK K); (repeat (refine WQ.step (fun K hK => ?_); have HK := hide hK; clear hK; go_simp; refine HK.out _ ?_; clear HK K)); refine WQ.done ?_; intro w7 hw'; obtain ⟨⟨_, hw7⟩, hw''⟩ := hw'; subst hw''; clear kq0_0 kq0_1; have HT := hide (HT.out.ext hw7); have Hw7 := hide hw7; clear hw7 kz0 kf0 kc0_0 kc0_1 kE; have kT := HT.out; simp only [Tr, Bx, CellsAt, Nat.reduceAdd, Nat.zero_add, and_true] at kT; obtain ⟨⟨kz0, kf0, kc0_0, kc0_1⟩, kE⟩ := kT
      clear qh ch
      have HE7 := hide (HE.out.trans Hw7.out)
      by_cases h0 : a ≤ 0
      · go_wp2_with fail
        go_ret
        exact ⟨ret_int (HA1.out h0).symm, kE⟩
      · have H0 := hide (show 0 < a by omega)
        go_wp2_with fail
        clear h0
        go_roundw
        case rel => exact ⟨k + 1, by omega, by go_num, hide (HA2.out H0.out), HE7⟩
        case measure => simp [intOf]; omega
    · obtain rfl : k = F.length := by omega
      go_wp2_with fail
      go_ret
      exact ⟨ret_int (HO2.out fun j hj => hz.out j hj hj).symm, kE⟩
end Go.Proofs.YtabgcpoaepafjaaGreat
namespace Go.Proofs.YtabgcpoaepafjaaGreat
open Go.RowKit
end Go.Proofs.YtabgcpoaepafjaaGreat
namespace Go.Proofs.YtabgcpoaepafjaaGreat
open Go.RowKit
theorem CellsAt.grown {w w' : World} {b : Nat} {row : Option Nat} (hg : w.grownBy w' row) (hb : b < w.heap.size) (hne : row ≠ some b) : ∀ {i : Nat} {vs : List Value}, CellsAt w b i vs → CellsAt w' b i vs
  | _, [], _ => trivial
  | i, _ :: _, h => ⟨by rw [← h.1]; simp only [World.cell?]; rw [hg.block b hb (fun e => hne e.symm)], CellsAt.grown hg hb hne h.2⟩
theorem Bx.grown {w w' W0 : World} {row : Option Nat} (hg : w.grownBy w' row) (hr : ∀ k, row = some k → W0.heap.size ≤ k) : ∀ {bs : List (Nat × List Value)}, Bx bs W0 → Bx bs w → Bx bs w'
  | [], _, _ => trivial
  | (b, _) :: _, h0, h => by
    have hne : row ≠ some b := fun e => by have := hr b e; have := h0.1.1; omega
    refine ⟨⟨Nat.lt_of_lt_of_le h.1.1 hg.size, fun i => ?_, CellsAt.grown hg h.1.1 hne h.1.2.2⟩, Bx.grown hg hr h0.2 h.2⟩
    rw [← h.1.2.1 i]
    simp only [World.frozen?]
    rw [hg.block b h.1.1 (fun e => hne e.symm)]
theorem Tr.grown {bs : List (Nat × List Value)} {a w w' W0 : World} {row : Option Nat} (h : Tr bs a w) (h0 : Tr bs a W0) (hg : w.grownBy w' row) (hr : ∀ k, row = some k → W0.heap.size ≤ k) : Tr bs a w' :=
  ⟨Bx.grown hg hr h0.1 h.1, h.2.grown hg (fun k hk => Nat.le_trans h0.2.size (hr k hk))⟩
theorem Tr.drew {bs : List (Nat × List Value)} {a w : World} (h : Tr bs a w) : Tr bs a w.drew := ⟨Bx.ext ((Ext.refl w).drew) h.1, h.2.drew⟩
/-- None of the boxes is the row. -/
def Ap (row : Option Nat) : List (Nat × List Value) → Prop
  | [] => True
  | (b, _) :: r => row ≠ some b ∧ Ap row r
theorem Bx.grownA {w w' : World} {row : Option Nat} (hg : w.grownBy w' row) : ∀ {bs : List (Nat × List Value)}, Ap row bs → Bx bs w → Bx bs w'
  | [], _, _ => trivial
  | (b, _) :: _, h0, h => by
    refine ⟨⟨Nat.lt_of_lt_of_le h.1.1 hg.size, fun i => ?_, CellsAt.grown hg h.1.1 h0.1 h.1.2.2⟩, Bx.grownA hg h0.2 h.2⟩
    rw [← h.1.2.1 i]
    simp only [World.frozen?]
    rw [hg.block b h.1.1 (fun e => h0.1 e.symm)]
theorem Tr.grownA {bs : List (Nat × List Value)} {a w w' : World} {row : Option Nat} (h : Tr bs a w) (hg : w.grownBy w' row) (hr : ∀ k, row = some k → a.heap.size ≤ k) (ha : Ap row bs) : Tr bs a w' :=
  ⟨Bx.grownA hg ha h.1, h.2.grown hg hr⟩
end Go.Proofs.YtabgcpoaepafjaaGreat
