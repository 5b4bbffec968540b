/- The walk of the order's function of the program's 'around'. -/
import Derived.Test.YtkgbilbicdiadaaRegM
import Derived.Test.YtkgbilbicdiadaaDart
import Derived.Test.YtkgbilbicdiadaaSort
import Derived.Test.YtkgbilbicdiadaaGeoN
import Derived.Test.YtkgbilbicdiadaaBits
import Derived.Test.YtkgbilbicdiadaaTrackH
import Derived.Test.YtkgbilbicdiadaaInts
import Derived.Test.YtkgbilbicdiadaaNodes
set_option linter.unusedSimpArgs false
set_option linter.unusedVariables false
namespace Go.Proofs.Ytkgbilbicdiadaa
open Go.RowKit

def cfD (N E : List P2) (k : Int) (d e : Nat) : Int := if d = e then 0 else if ltD N E k d e = true then -1 else 1
theorem cfD_lt (N E : List P2) (k : Int) (d e : Nat) : decide (cfD N E k d e < 0) = ltD N E k d e := by
  unfold cfD
  by_cases h : d = e
  · subst h
    rw [if_pos rfl]
    have : ltD N E k d d = false := befN_self _ _
    rw [this]
    rfl
  · rw [if_neg h]
    cases ltD N E k d e <;> rfl
theorem i64_xor (a b : Nat) (ha : a < 2 ^ 62) (hb : b < 2 ^ 62) : bits .xor .i64 (a : Int) (b : Int) = ((a ^^^ b : Nat) : Int) := by
  have e : (BitVec.ofInt 64 (a : Int) ^^^ BitVec.ofInt 64 (b : Int)).toNat = a ^^^ b := by
    rw [BitVec.toNat_xor]
    have ha' : (BitVec.ofInt 64 (a : Int)).toNat = a := by simp; omega
    have hb' : (BitVec.ofInt 64 (b : Int)).toNat = b := by simp; omega
    rw [ha', hb']
  show IntKind.i64.wrap ((BitVec.ofInt 64 (a : Int) ^^^ BitVec.ofInt 64 (b : Int)).toNat : Nat) = _
  rw [e]
  exact wraps_i64 _ (Int.natCast_nonneg _) (by have := Nat.xor_lt_two_pow ha hb; omega)
theorem xor_twin (d : Nat) (h : d < 2 ^ 62) : bits .xor .i64 (d : Int) 1 = ((twin d : Nat) : Int) := by
  have := i64_xor d 1 h (by decide)
  rw [twin_xor] at this
  exact this
set_option maxRecDepth 20000 in
set_option maxHeartbeats 4000000 in
theorem around1_any (N E : List P2) (A B : Option Addr) (c c' k d e pw pk : Nat) (w : World) (hw : WR w N E A B c c') (hok : WinOk N E) (hk : k < N.length) (hd : d < 2 * E.length) (he : e < 2 * E.length)
    (hpw : pw < w.heap.size ∧ w.cell? ⟨pw, 0, none⟩ = some (.slice A N.length c) ∧ w.cell? ⟨pw, 1, none⟩ = some (.slice B E.length c')) (hpk : pk < w.heap.size ∧ w.cell? ⟨pk, 0, none⟩ = some (.int .i64 (k : Nat))) :
    Calls Try.prog 180 #[.int .i64 (d : Nat), .int .i64 (e : Nat), .pointer (some ⟨pw, 0, none⟩), .pointer (some ⟨pk, 0, none⟩)] w fun x w' => x = .returned (.int .i64 (cfD N E k d e)) ∧ Ext w w' := by
  have hdE := hok.m
  obtain ⟨p, hp⟩ := Int.eq_ofNat_of_zero_le (hok.ends (twin_lt hd)).1
  obtain ⟨q, hq⟩ := Int.eq_ofNat_of_zero_le (hok.ends (twin_lt he)).1
  have hpl : p < N.length := by have := (hok.ends (twin_lt hd)).2.1; omega
  have hql : q < N.length := by have := (hok.ends (twin_lt he)).2.1; omega
  obtain ⟨b, off, rfl, hb, ck0, ck1⟩ := R2.at_ hw.hr hk
  obtain ⟨b', off', hA', _, cp0, cp1⟩ := R2.at_ hw.hr hpl
  injection hA' with hA'
  injection hA' with hA1 hA2 _
  subst hA1 hA2
  obtain ⟨b', off', hA', _, cq0, cq1⟩ := R2.at_ hw.hr hql
  injection hA' with hA'
  injection hA' with hA1 hA2 _
  subst hA1 hA2
  obtain ⟨⟨x1, x2⟩, nx⟩ : ∃ q : P2, N[k] = q := ⟨_, rfl⟩
  obtain ⟨⟨y1, y2⟩, ny⟩ : ∃ q : P2, N[p] = q := ⟨_, rfl⟩
  obtain ⟨⟨z1, z2⟩, nz⟩ : ∃ r : P2, N[q] = r := ⟨_, rfl⟩
  rw [nx] at ck0 ck1
  rw [ny] at cp0 cp1
  rw [nz] at cq0 cq1
  dsimp only at ck0 ck1 cp0 cp1 cq0 cq1
  have HV : Hid (ltD N E k d e = befN (x1, x2) (y1, y2) (z1, z2)) := hide (by unfold ltD; rw [hp, hq]; rw [show ((k : Nat) : Int) = (k : Int) from rfl, at2_eq hk, at2_eq hpl, at2_eq hql, nx, ny, nz])
  have H1 : Hid (∀ W, Ext w W → Calls Try.prog 152 #[.agg #[.slice (some ⟨b, off, none⟩) N.length c, .slice B E.length c'], .int .i64 (twin d : Nat)] W fun x w' => x = .returned (.int .i64 (p : Nat)) ∧ Ext W w') := hide (fun W hE => by
    have := dartFrom_any N E (some ⟨b, off, none⟩) B c c' (twin d) W (hw.ext hE) (twin_lt hd)
    rw [hp] at this
    exact this)
  have H2 : Hid (∀ W, Ext w W → Calls Try.prog 152 #[.agg #[.slice (some ⟨b, off, none⟩) N.length c, .slice B E.length c'], .int .i64 (twin e : Nat)] W fun x w' => x = .returned (.int .i64 (q : Nat)) ∧ Ext W w') := hide (fun W hE => by
    have := dartFrom_any N E (some ⟨b, off, none⟩) B c c' (twin e) W (hw.ext hE) (twin_lt he)
    rw [hq] at this
    exact this)
  have xd := xor_twin d (by omega)
  have xe := xor_twin e (by omega)
  have hN12 := hok.n
  have hcN := hw.hc
  clear hw hok nx ny nz hp hq
  obtain ⟨pw0, pw1, pw2⟩ := hpw
  obtain ⟨pk0, pk1⟩ := hpk
  have i1 : (0 : Int) ≤ (k : Int) := by omega
  have i2 : (k : Int) < (N.length : Int) := by omega
  have i3 : (0 : Int) ≤ (p : Int) := by omega
  have i4 : (p : Int) < (N.length : Int) := by omega
  have i5 : (0 : Int) ≤ (q : Int) := by omega
  have i6 : (q : Int) < (N.length : Int) := by omega
  generalize twin d = td at *
  generalize twin e = te at *
  have k1 := ExtBy.cell (W := w) hb ck0
  have k2 := ExtBy.cell (W := w) hb ck1
  have k3 := ExtBy.cell (W := w) hb cp0
  have k4 := ExtBy.cell (W := w) hb cp1
  have k5 := ExtBy.cell (W := w) hb cq0
  have k6 := ExtBy.cell (W := w) hb cq1
  have k7 := ExtBy.cell (W := w) pw0 pw1
  have k8 := ExtBy.cell (W := w) pw0 pw2
  have k9 := ExtBy.cell (W := w) pk0 pk1
  go_enter Try.func180, Try.ntmps180
  go_wp2_with fail
  refine wp_region_MEl 3 40 (fun k => ([21, 22, 23] : List Nat).getD k 0) (fun k => ([24, 25, 26] : List Nat).getD k 0) [.plain, .plain, .plain, .plain, .plain, .plain, .plain, .plain, .plain, .plain, .plain, .plain, .plain, .plain, .plain, .plain, .plain, .plain, .plain, .plain, .plain, .alloc 0, .alloc 1, .alloc 2, .store 0, .store 1, .store 2] (fun k => ([79, 79, 79] : List Nat).getD k 0) (fun k => ([#[.int .i64 0, .int .i64 0], #[.int .i64 0, .int .i64 0], #[.int .i64 0, .int .i64 0]] : List (Array Value)).getD k #[]) (fun k => ([#[.int .i64 x1, .int .i64 x2], #[.int .i64 y1, .int .i64 y2], #[.int .i64 z1, .int .i64 z2]] : List (Array Value)).getD k #[]) (fun k => ([some 7, some 8, some 9] : List (Option Nat)).getD k none) (by kernel_rfl) (by kernel_rfl) (by kernel_rfl) (by kernel_rfl) (by kernel_rfl) rfl (by kernel_rfl) (by kernel_rfl) (by kernel_rfl) ?_
  (refine WMs.step (fun K hK => ?_); have HK := hide hK; clear hK; go_simp; refine HK.out _ ?_; clear HK K)
  (refine WMs.step (fun K hK => ?_); have HK := hide hK; clear hK; go_simp; refine HK.out _ ?_; clear HK K)
  (refine WMs.step (fun K hK => ?_); have HK := hide hK; clear hK; go_simp; refine HK.out _ ?_; clear HK K)
  (refine WMs.step (fun K hK => ?_); have HK := hide hK; clear hK; go_simp; refine HK.out _ ?_; clear HK K)
  (refine WMs.step (fun K hK => ?_); have HK := hide hK; clear hK; go_simp; refine HK.out _ ?_; clear HK K)
  (refine WMs.step (fun K hK => ?_); have HK := hide hK; clear hK; go_simp; refine HK.out _ ?_; clear HK K)
  (refine WMs.step (fun K hK => ?_); have HK := hide hK; clear hK; go_simp; refine HK.out _ ?_; clear HK K)
  (refine WMs.step (fun K hK => ?_); have HK := hide hK; clear hK; go_simp; refine HK.out _ ?_; clear HK K)
  (refine WMs.step (fun K hK => ?_); have HK := hide hK; clear hK; go_simp; refine HK.out _ ?_; clear HK K)
  (refine WMs.step (fun K hK => ?_); have HK := hide hK; clear hK; go_simp; refine HK.out _ ?_; clear HK K)
  (refine WMs.step (fun K hK => ?_); have HK := hide hK; clear hK; go_simp; apply Exists.intro; refine ⟨fun p => ?_, HK.out _ ?_⟩; (go_at_call 152; exact H1.out _ p.h); clear HK K)
  (refine WMs.step (fun K hK => ?_); have HK := hide hK; clear hK; go_simp; refine HK.out _ ?_; clear HK K)
  (refine WMs.step (fun K hK => ?_); have HK := hide hK; clear hK; go_simp; refine HK.out _ ?_; clear HK K)
  (refine WMs.step (fun K hK => ?_); have HK := hide hK; clear hK; go_simp; refine HK.out _ ?_; clear HK K)
  (refine WMs.step (fun K hK => ?_); have HK := hide hK; clear hK; go_simp; refine HK.out _ ?_; clear HK K)
  (refine WMs.step (fun K hK => ?_); have HK := hide hK; clear hK; go_simp; refine HK.out _ ?_; clear HK K)
  (refine WMs.step (fun K hK => ?_); have HK := hide hK; clear hK; go_simp; refine HK.out _ ?_; clear HK K)
  (refine WMs.step (fun K hK => ?_); have HK := hide hK; clear hK; go_simp; refine HK.out _ ?_; clear HK K)
  (refine WMs.step (fun K hK => ?_); have HK := hide hK; clear hK; go_simp; apply Exists.intro; refine ⟨fun p => ?_, HK.out _ ?_⟩; (go_at_call 152; exact H2.out _ p.h); clear HK K)
  (refine WMs.step (fun K hK => ?_); have HK := hide hK; clear hK; go_simp; refine HK.out _ ?_; clear HK K)
  (refine WMs.step (fun K hK => ?_); have HK := hide hK; clear hK; go_simp; refine HK.out _ ?_; clear HK K)
  refine WMs.made (by intro a' w'; go_simp) ?_
  refine WMs.made (by intro a' w'; go_simp) ?_
  refine WMs.made (by intro a' w'; go_simp) ?_
  refine WMs.put (by intro w' b hh; obtain ⟨hc0, hc1, hf, hz⟩ := two_cells hh; refine ⟨_, ?_, put_two hh⟩; go_simp) ?_
  refine WMs.put (by intro w' b hh; obtain ⟨hc0, hc1, hf, hz⟩ := two_cells hh; refine ⟨_, ?_, put_two hh⟩; go_simp) ?_
  refine WMs.put (by intro w' b hh; obtain ⟨hc0, hc1, hf, hz⟩ := two_cells hh; refine ⟨_, ?_, put_two hh⟩; go_simp) ?_
  refine WMs.done ?_
  intro B w2 hE hB
  obtain ⟨⟨⟨_, hB0, hC0⟩, hB1, hC1⟩, hB2, hC2⟩ := hB
  obtain ⟨B0, hb0⟩ : ∃ b, B 0 = b := ⟨_, rfl⟩
  rw [hb0] at hB0 hC0
  obtain ⟨B1, hb1⟩ : ∃ b, B 1 = b := ⟨_, rfl⟩
  rw [hb1] at hB1 hC1
  obtain ⟨B2, hb2⟩ : ∃ b, B 2 = b := ⟨_, rfl⟩
  rw [hb2] at hB2 hC2
  simp only [putB, hb0, hb1, hb2, List.getD_cons_zero, List.getD_cons_succ]
  clear hb0 hb1 hb2
  go_simp
  clear k1 k2 k3 k4 k5 k6 k7 k8 k9
  have HE := hide hE
  obtain ⟨a0, a1, _, _⟩ := two_cells hC0
  obtain ⟨b0, b1, _, _⟩ := two_cells hC1
  obtain ⟨c0, c1, _, _⟩ := two_cells hC2
  clear hC0 hC1 hC2 hE
  have H := IsBeforeAround_any (x1, x2) (y1, y2) (z1, z2) w2
  by_cases hde : d = e
  · subst hde
    go_wp2_with fail
    go_ret
    exact ⟨ret_int (by unfold cfD; rw [if_pos rfl]), HE.out⟩
  · have hde' : ¬ ((d : Int) = (e : Int)) := by omega
    cases hlv : ltD N E k d e with
    | true =>
      rw [← HV.out, hlv] at H
      have HLV := hide hlv
      clear hlv
      go_wp2_with (go_at_call 181; refine H.mono ?_; rintro e w3 ⟨rfl, hb3⟩)
      go_ret
      exact ⟨ret_int (by unfold cfD; rw [if_neg hde, if_pos HLV.out]), HE.out.trans hb3⟩
    | false =>
      rw [← HV.out, hlv] at H
      have HLV := hide hlv
      clear hlv
      go_wp2_with (go_at_call 181; refine H.mono ?_; rintro e w3 ⟨rfl, hb3⟩)
      go_ret
      exact ⟨ret_int (by unfold cfD; rw [if_neg hde, HLV.out]; rfl), HE.out.trans hb3⟩
end Go.Proofs.Ytkgbilbicdiadaa
namespace Go.Proofs.Ytkgbilbicdiadaa
open Go.RowKit

theorem around_ins (N E : List P2) (k : Int) : aroundL N E k = (insAll (ltD N E k) (dartsAt E k (2 * E.length))).reverse := by
  unfold aroundL
  rw [arR_ins]
theorem around_length (N E : List P2) (k : Int) : (aroundL N E k).length = (dartsAt E k (2 * E.length)).length := (around_perm N E k).length_eq
theorem dartsAt_mem {E : List P2} {k : Int} {n d : Nat} (h : d ∈ dartsAt E k n) : d < n ∧ fromN E d = k := by
  simpa [dartsAt] using h
theorem one_cell (v : Int) : ∀ u ∈ [Value.int .i64 v], u.oneCell' = true := by intro u hu; simp at hu; subst hu; rfl
set_option maxRecDepth 20000 in
set_option maxHeartbeats 4000000 in
theorem around_any (N E : List P2) (A B : Option Addr) (c c' k : Nat) (w : World) (hw : WR w N E A B c c') (hok : WinOk N E) (hk : k < N.length) (hne : 0 < (aroundL N E k).length) :
    Calls Try.prog 176 #[.agg #[.slice A N.length c, .slice B E.length c'], .int .i64 (k : Nat)] w fun e w' => ∃ g c2, e = .returned (.slice (some ⟨g, 0, none⟩) (aroundL N E k).length c2) ∧ w'.ownsRow w.heap.size 3 1 (.slice (some ⟨g, 0, none⟩) (aroundL N E k).length c2) (aroundL N E k).length (encN (aroundL N E k)) ∧ Ext w w' := by
  obtain ⟨i0, hi, hz0, hz1, hz2⟩ := info_parts int_info
  rw [around_length] at *
  have HW := hide hw
  have HK := hide hok
  have hm := hok.m
  have hl12 := hok.degree k (2 * E.length) (Nat.le_refl _)
  clear hw hok
  
  go_enter Try.func176, Try.ntmps176
  go_wp2_with fail
  obtain ⟨w1, hw⟩ : ∃ w1, w1 = (w.alloc (Obj.cells #[Value.slice A N.length c, Value.slice B E.length c'] 27)).alloc (Obj.cells #[Value.int IntKind.i64 (k : Nat)] 3) := ⟨_, rfl⟩; rw [← hw]; have kT : Tr [(w.heap.size, [.slice A N.length c, .slice B E.length c']), (w.heap.size + 1, [.int .i64 (k : Nat)])] w w1 := (by rw [hw]; exact ⟨by (first | (simp [Bx, CellsAt, go_sem, *]; done) | (simp [Bx, CellsAt, go_sem, *]; omega)), by (repeat (first | exact kE | exact Ext.refl _ | apply Ext.alloc | apply Ext.drewN | apply Ext.drew | apply Ext.set0 | apply Ext.set1 | apply Ext.set2 | apply Ext.set3 | (refine Ext.setk ?_ (by omega) _) | (apply Ext.snoc; assumption)))⟩); have HT := hide kT; clear hw kT; have kT := HT.out; simp only [Tr, Bx, CellsAt, Nat.reduceAdd, Nat.zero_add, and_true] at kT; obtain ⟨⟨⟨kz0, kf0, kc0_0, kc0_1⟩, ⟨kz1, kf1, kc1_0⟩⟩, kE⟩ := kT
  have H1 := hide (show CmpE 180 #[.pointer (some ⟨w.heap.size, 0, none⟩), .pointer (some ⟨w.heap.size + 1, 0, none⟩)] (cfD N E k) (dartsAt E k (2 * E.length)) w1 from fun W d e hE hd he =>
    around1_any N E A B c c' k d e w.heap.size (w.heap.size + 1) W (HW.out.ext (kE.trans hE)) HK.out hk (dartsAt_mem hd).1 (dartsAt_mem he).1 (by
      have hF := hE.facts
      first
        | exact ⟨hF.2.2 _ kz0, (hF.1 _ 0 kz0).trans kc0_0, (hF.1 _ 1 kz0).trans kc0_1⟩
        | exact ⟨hF.2.2 _ kz1, (hF.1 _ 0 kz1).trans kc1_0, (hF.1 _ 1 kz1).trans kc1_1⟩) (by
      have hF := hE.facts
      first
        | exact ⟨hF.2.2 _ kz1, (hF.1 _ 0 kz1).trans kc1_0⟩
        | exact ⟨hF.2.2 _ kz0, (hF.1 _ 0 kz0).trans kc0_0⟩))
  have HW1 := hide kE
  clear kz0 kf0 kc0_0 kc0_1 kz1 kf1 kc1_0 kE
  go_loopw [5, 6] (fun v i wr => ∃ d : Nat, d ≤ 2 * E.length ∧ i = .int .i64 d ∧ Hid (wr.ownsRow w1.heap.size 3 1 v (dartsAt E k d).length (encN (dartsAt E k d))) ∧ Hid (Ext w1 wr)) (fun _ i _ => 2 * E.length - (intOf i).toNat)
  case atStart => exact ⟨0, Nat.zero_le _, rfl, hide (World.ownsRow_nil w1 w1.heap.size 3 1), hide (Ext.refl _)⟩
  case round =>
    obtain ⟨d, hd, rfl, HO, HE⟩ := hrel
    have hE := HE.out
    have HT := hide (HT.out.ext hE); clear hE; have kT := HT.out; simp only [Tr, Bx, CellsAt, Nat.reduceAdd, Nat.zero_add, and_true] at kT; obtain ⟨⟨⟨kz0, kf0, kc0_0, kc0_1⟩, ⟨kz1, kf1, kc1_0⟩⟩, kE⟩ := kT
    by_cases hlt : d < 2 * E.length
    · have hlz : (d : Int) < 2 * (E.length : Int) := by omega
      obtain ⟨f, hf⟩ := Int.eq_ofNat_of_zero_le (HK.out.ends hlt).1
      have HF := hide hf
      have HC := fun p : ExtBy wr => dartFrom_any N E A B c c' d p.w (HW.out.ext (kE.trans p.h)) hlt
      rw [hf] at HC
      have HC := hide HC
      clear hf
      go_wp2_with fail
      by_cases hfk : f = k
      · subst hfk
        have kq0_0 := ExtBy.cell (W := wr) kz0 kc0_0; have kq0_1 := ExtBy.cell (W := wr) kz0 kc0_1; have kq1_0 := ExtBy.cell (W := wr) kz1 kc1_0; refine wp_region_quietE (by kernel_rfl) (by kernel_rfl) ?_; (repeat (refine WQ.step (fun K hK => ?_); have HK := hide hK; clear hK; go_simp; refine HK.out _ ?_; clear HK K)); (refine WQ.step (fun K hK => ?_); have HK := hide hK; clear hK; go_simp; apply Exists.intro; refine ⟨fun _ => ?_, HK.out _ ?_⟩; (go_at_call 152; refine extby_of (HC.out _)); clear HK K); (repeat (refine WQ.step (fun K hK => ?_); have HK := hide hK; clear hK; go_simp; refine HK.out _ ?_; clear HK K)); refine WQ.done ?_; intro w3 hw'; obtain ⟨⟨_, hw3⟩, hw''⟩ := hw'; subst hw''; clear kq0_0 kq0_1 kq1_0; have HT := hide (HT.out.ext hw3); have Hw3 := hide hw3; clear hw3 kz0 kf0 kc0_0 kc0_1 kz1 kf1 kc1_0 kE; have kT := HT.out; simp only [Tr, Bx, CellsAt, Nat.reduceAdd, Nat.zero_add, and_true] at kT; obtain ⟨⟨⟨kz0, kf0, kc0_0, kc0_1⟩, ⟨kz1, kf1, kc1_0⟩⟩, kE⟩ := kT
        have HO3 := hide (own_ext HO.out Hw3.out)
        have HE3 := hide (HE.out.trans Hw3.out)
        clear HO HE
        have HD := hide (show dartsAt E (f : Nat) (d + 1) = dartsAt E (f : Nat) d ++ [d] by rw [dartsAt_succ, if_pos HF.out])
        have hsz3 := HE3.out.size
        have hdl := HK.out.degree (f : Nat) d (by omega)
        go_wp2_with (at_builtin; refine wpList_append_own _ rfl _ _ 29 rfl w1.heap.size 3 i0 (.int .i64 0) 1 8 Try.underlying29 hi hz0 hz1 hz2 rfl (by decide) u5 (dartsAt E (f : Nat) d).length (encN (dartsAt E (f : Nat) d)) rfl (own_ext HO3.out ((Ext.refl _).alloc _)) ⟨w3.heap.size, 0, none⟩ 1 1 [.int .i64 (d : Int)] rfl rfl (news_new w3 #[.int .i64 (d : Int)] 3) (one_cell _) (by unfold maxLen; omega) (by omega) (by first | (simp; done) | (simp; omega)) ?_; intro v' w4 hown4 hgrow4 hnil)
        have E4 := hide (Ext.grown (HE3.out.alloc _) hgrow4 (own_base HO3.out (Nat.le_refl _)))
        have HO4 := hide (show w4.ownsRow w1.heap.size 3 1 v' (dartsAt E (f : Nat) (d + 1)).length (encN (dartsAt E (f : Nat) (d + 1))) by rw [HD.out, encN_append, List.length_append]; exact hown4)
        clear hown4 hgrow4 hnil HO3 HE3
        go_roundw
        case rel => exact ⟨d + 1, by omega, by go_num, HO4, E4⟩
        case measure => simp [intOf]; omega
      · have hfz : ((f : Int) == (k : Int)) = false := by simp; omega
        have hfz2 : (f == k) = false := by simp; omega
        have HN := hide hfk
        clear hfk
        have kq0_0 := ExtBy.cell (W := wr) kz0 kc0_0; have kq0_1 := ExtBy.cell (W := wr) kz0 kc0_1; have kq1_0 := ExtBy.cell (W := wr) kz1 kc1_0; refine wp_region_quietE (by kernel_rfl) (by kernel_rfl) ?_; (repeat (refine WQ.step (fun K hK => ?_); have HK := hide hK; clear hK; go_simp; refine HK.out _ ?_; clear HK K)); (refine WQ.step (fun K hK => ?_); have HK := hide hK; clear hK; go_simp; apply Exists.intro; refine ⟨fun _ => ?_, HK.out _ ?_⟩; (go_at_call 152; refine extby_of (HC.out _)); clear HK K); (repeat (refine WQ.step (fun K hK => ?_); have HK := hide hK; clear hK; go_simp; refine HK.out _ ?_; clear HK K)); refine WQ.done ?_; intro w3 hw'; obtain ⟨⟨_, hw3⟩, hw''⟩ := hw'; subst hw''; clear kq0_0 kq0_1 kq1_0; have HT := hide (HT.out.ext hw3); have Hw3 := hide hw3; clear hw3 kz0 kf0 kc0_0 kc0_1 kz1 kf1 kc1_0 kE; have kT := HT.out; simp only [Tr, Bx, CellsAt, Nat.reduceAdd, Nat.zero_add, and_true] at kT; obtain ⟨⟨⟨kz0, kf0, kc0_0, kc0_1⟩, ⟨kz1, kf1, kc1_0⟩⟩, kE⟩ := kT
        have HO3 := hide (own_ext HO.out Hw3.out)
        have HE3 := hide (HE.out.trans Hw3.out)
        clear HO HE
        have HD := hide (show dartsAt E (k : Nat) (d + 1) = dartsAt E (k : Nat) d by rw [dartsAt_succ, if_neg (by rw [HF.out]; intro e; exact HN.out (by omega))])
        go_wp2_with fail
        go_roundw
        case rel => exact ⟨d + 1, by omega, by go_num, by rw [HD.out]; exact HO3, HE3⟩
        case measure => simp [intOf]; omega
    · obtain rfl : d = 2 * E.length := by omega
      have hlz : ¬ ((2 * E.length : Nat) : Int) < 2 * (E.length : Int) := by omega
      obtain ⟨A0, c2, rfl, hc2, hA0, hA1⟩ := own_slice HO.out
      cases A0 with
      | none => exact absurd (hA0 rfl) (by omega)
      | some a0 =>
        obtain ⟨g, rfl, hgB, hgl, _⟩ := hA1 a0 rfl
        have HS := hide (SortFunc_any (ltD N E k) (cfD N E k) (dartsAt E k (2 * E.length)) #[.pointer (some ⟨w.heap.size, 0, none⟩), .pointer (some ⟨w.heap.size + 1, 0, none⟩)] w1.heap.size g c2 w1 wr (cfD_lt N E k) hl12 hne (Nat.le_refl _) H1.out HE.out HO.out)
        clear hA0 hA1
        go_wp2_with (go_at_call 179; refine HS.out.mono ?_; rintro e w5 ⟨rfl, h5, h6⟩)
        have H5 := hide h5
        have H6 := hide h6
        have hB := HW1.out.size
        clear h5 h6
        go_wp2_with fail
        go_ret
        exact ⟨g, c2, rfl, by rw [around_ins]; exact own_mono H5.out hB, HW1.out.trans H6.out⟩
end Go.Proofs.Ytkgbilbicdiadaa
