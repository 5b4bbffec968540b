/- Windows as a law's arguments: how they are opened, counted, copied, compared. No condition but that a list has at most 1048576 elements. -/
import Derived.Test.YtkgbilbicdiadaaArgs
import Derived.Test.YtkgbilbicdiadaaLeadList
import Derived.Test.YtkgbilbicdiadaaIns
import Derived.Test.YtkgbilbicdiadaaTrackH
set_option linter.unusedSimpArgs false
set_option linter.unusedVariables false
namespace Go.Proofs.Ytkgbilbicdiadaa
open Go.ChangeShapes Go.WideShapes Go.RowKit Go.Joins Go.Deep

section
variable {P : Program} {H : Type} {enc : TypeId × Value → H} {w : World}
theorem array2' {α : Type} {cs : Array α} (h : cs.size = 2) : ∃ a b, cs = #[a, b] := by
  obtain ⟨l⟩ := cs
  match l, h with
  | [a, b], _ => exact ⟨a, b, rfl⟩
/-- A struct of two slices of pairs. -/
theorem open_window {t tn tl en el fi : TypeId} {f0 f1 g0 g1 k0 k1 : Field} {b0 : Nat} {v : Value} {d : DataW H} {p : List MemPlace} (ht : P.underlying t = some (.struct #[f0, f1]))
    (hf0 : f0.type = tn) (hf1 : f1.type = tl) (hn : P.underlying tn = some (.slice en)) (hl : P.underlying tl = some (.slice el)) (hen : P.underlying en = some (.struct #[g0, g1])) (hel : P.underlying el = some (.struct #[k0, k1]))
    (hi : P.underlying fi = some (.int .i64)) (hg0 : g0.type = fi) (hg1 : g1.type = fi) (hk0 : k0.type = fi) (hk1 : k1.type = fi)
    (hone : oneCellFields P #[g0, g1] = true) (honek : oneCellFields P #[k0, k1] = true) (hC : P.cellsOf en = 2) (hCk : P.cellsOf el = 2) (hCt : P.cellsOf t = 2) (hCn : P.cellsOf tn = 1) (hCl : P.cellsOf tl = 1)
    (ho0 : f0.offset = 0) (ho1 : f1.offset = 1)
    (hv : Value.okWide P w .any b0 t v) (h : DataW.Trod enc P w 0 (fun _ => true) true t v d p) :
    ∃ (A B : Option Addr) (c c' : Nat) (l m : List P2), v = .agg #[.slice A l.length c, .slice B m.length c'] ∧ (l.length ≤ c ∧ c ≤ maxLen) ∧ (m.length ≤ c' ∧ c' ≤ maxLen) ∧ R2 w A l ∧ R2 w B m := by
  obtain ⟨cs, rfl, hsz⟩ := okWide_struct ht hv
  obtain ⟨c0, c1, rfl⟩ := array2' (hsz.trans hCt)
  obtain ⟨fuel, hf⟩ := h
  obtain ⟨y0, y1, n, _, _, h0, h1⟩ := Go.ChangeShapes.trod_struct2 ht hf
  rw [hf0, ho0, hCn] at h0
  rw [hf1, ho1, hCl] at h1
  simp only [Value.cells] at h0 h1
  obtain ⟨A, c, l, hcs, hlc, hm, hr⟩ := trod_slice2 hn hen hg0 hg1 hi hone hC h0
  obtain ⟨B, c', m, hcs', hlc', hm', hr'⟩ := trod_slice2 hl hel hk0 hk1 hi honek hCk h1
  refine ⟨A, B, c, c', l, m, ?_, ⟨hlc, hm⟩, ⟨hlc', hm'⟩, hr, hr'⟩
  have e0 : c0 = .slice A l.length c := by simpa using hcs
  have e1 : c1 = .slice B m.length c' := by simpa using hcs'
  rw [e0, e1]
end
def szW (N E : List P2) (left : Int) : Int := if left < N.length then -1 else szR E.length (left - N.length)
theorem szWindow_any (N E : List P2) (A B : Option Addr) (c c' : Nat) (left : Int) (w : World) (hN : N.length ≤ maxLen) (hE : E.length ≤ maxLen) (h0 : 0 ≤ left) (h1 : left ≤ 1048576) :
    Calls Try.prog 32 #[.agg #[.slice A N.length c, .slice B E.length c'], .int .i64 left] w fun e w' => e = .returned (.int .i64 (szW N E left)) ∧ Ext w w' := by
  by_cases h : left < N.length
  · have hs : szR N.length left = -1 := by simp [szR, h]
    have hv : szW N E left = -1 := by simp [szW, h]
    go_enter Try.func32, Try.ntmps32
    go_wp2_with (go_at_call 66; refine (szNodeS_any N A c left _ hN h0 h1).mono ?_; rintro e wq ⟨rfl, rfl⟩; rw [hs])
    go_ret
    exact ⟨ret_int hv.symm, by repeat (first | exact kE | exact Ext.refl _ | apply Ext.alloc | apply Ext.drewN | apply Ext.drew | apply Ext.set0 | apply Ext.set1 | apply Ext.set2 | apply Ext.set3 | (refine Ext.setk ?_ (by omega) _) | (apply Ext.snoc; assumption))⟩
  · have hs : szR N.length left = left - N.length := by unfold szR; rw [if_neg h]
    have hv : szW N E left = szR E.length (left - N.length) := by unfold szW; rw [if_neg h]
    have hq : ¬ left - N.length < 0 := by omega
    by_cases h2 : left - N.length < E.length
    · have hs2 : szR E.length (left - N.length) = -1 := by simp [szR, h2]
      go_enter Try.func32, Try.ntmps32
      go_wp2_with (first | (go_at_call 66; refine (szNodeS_any N A c left _ hN h0 h1).mono ?_; rintro e wq ⟨rfl, rfl⟩; rw [hs]) | (go_at_call 97; refine (szLeadS_any E B c' (left - N.length) _ hE (by omega) (by omega)).mono ?_; rintro e wq ⟨rfl, rfl⟩; rw [hs2]))
      go_ret
      exact ⟨ret_int (by rw [hv, hs2]), by repeat (first | exact kE | exact Ext.refl _ | apply Ext.alloc | apply Ext.drewN | apply Ext.drew | apply Ext.set0 | apply Ext.set1 | apply Ext.set2 | apply Ext.set3 | (refine Ext.setk ?_ (by omega) _) | (apply Ext.snoc; assumption))⟩
    · have hs2 : szR E.length (left - N.length) = left - N.length - E.length := by unfold szR; rw [if_neg h2]
      have hq2 : ¬ left - N.length - E.length < 0 := by omega
      go_enter Try.func32, Try.ntmps32
      go_wp2_with (first | (go_at_call 66; refine (szNodeS_any N A c left _ hN h0 h1).mono ?_; rintro e wq ⟨rfl, rfl⟩; rw [hs]) | (go_at_call 97; refine (szLeadS_any E B c' (left - N.length) _ hE (by omega) (by omega)).mono ?_; rintro e wq ⟨rfl, rfl⟩; rw [hs2]))
      go_ret
      exact ⟨ret_int (by rw [hv, hs2]), by repeat (first | exact kE | exact Ext.refl _ | apply Ext.alloc | apply Ext.drewN | apply Ext.drew | apply Ext.set0 | apply Ext.set1 | apply Ext.set2 | apply Ext.set3 | (refine Ext.setk ?_ (by omega) _) | (apply Ext.snoc; assumption))⟩
theorem szW_yes {N E : List P2} {left : Int} (h : ¬ szW N E left < 0) (h1 : left ≤ 1048576) : N.length ≤ 1048576 ∧ E.length ≤ 1048576 ∧ szW N E left = left - N.length - E.length := by
  unfold szW at *
  split at h
  · omega
  · rename_i hn
    rw [if_neg hn]
    unfold szR at *
    split at h
    · omega
    · rename_i hn2
      rw [if_neg hn2]
      omega
theorem toWindow_any (N E : List P2) (A B : Option Addr) (c c' : Nat) (w : World) (hN : N.length ≤ 1048576) (hE : E.length ≤ 1048576) (hr : R2 w A N) (hs : R2 w B E) :
    Calls Try.prog 34 #[.agg #[.slice A N.length c, .slice B E.length c']] w fun e w' => ∃ g g', e = .returned (.agg #[.slice (some ⟨g, 0, none⟩) N.length N.length, .slice (some ⟨g', 0, none⟩) E.length E.length]) ∧ WR w' N E (some ⟨g, 0, none⟩) (some ⟨g', 0, none⟩) N.length E.length ∧ Ext w w' := by
  have HR := hide hr
  have HS := hide hs
  clear hr hs
  go_enter Try.func34, Try.ntmps34
  go_wp2_with fail
  refine (toNodeS_any N A c _ hN (Rds.ext HR.out (by repeat (first | exact kE | exact Ext.refl _ | apply Ext.alloc | apply Ext.drewN | apply Ext.drew | apply Ext.set0 | apply Ext.set1 | apply Ext.set2 | apply Ext.set3 | (refine Ext.setk ?_ (by omega) _) | (apply Ext.snoc; assumption))))).mono ?_; rintro e w1 ⟨g, rfl, ho1, hb1⟩; have HO := hide ho1; clear ho1; obtain ⟨hc1, hf1, _⟩ := hb1.facts; have hs1 := hb1.size; (try simp only [World.size_alloc] at hs1); have hz1_0 : w.heap.size < w1.heap.size := (by omega); have hz1_1 : w.heap.size + 1 < w1.heap.size := (by omega); have hz1_2 : w.heap.size + 1 + 1 < w1.heap.size := (by omega)
  go_wp2_with fail
  refine (toLeadS_any E B c' _ hE (Rds.ext HS.out (by repeat (first | exact kE | exact Ext.refl _ | apply Ext.alloc | apply Ext.drewN | apply Ext.drew | apply Ext.set0 | apply Ext.set1 | apply Ext.set2 | apply Ext.set3 | (refine Ext.setk ?_ (by omega) _) | (apply Ext.snoc; assumption))))).mono ?_; rintro e w2 ⟨g', rfl, ho2, hb2⟩; have HO2 := hide ho2; clear ho2; obtain ⟨hc2, hf2, _⟩ := hb2.facts; have hs2 := hb2.size; (try simp only [World.size_alloc] at hs2)
  go_wp2_with fail
  refine bodyPost_ret (v := .agg #[.slice (some ⟨g, 0, none⟩) N.length N.length, .slice (some ⟨g', 0, none⟩) E.length E.length]) (by simp only [results, Try.results34]; go_simp) rfl ⟨g, g', rfl, ⟨hN, hE, Nat.le_refl _, Nat.le_refl _, ?_, ?_⟩, by repeat (first | exact kE | exact Ext.refl _ | apply Ext.alloc | apply Ext.drewN | apply Ext.drew | apply Ext.set0 | apply Ext.set1 | apply Ext.set2 | apply Ext.set3 | (refine Ext.setk ?_ (by omega) _) | (apply Ext.snoc; assumption))⟩
  · have hg := (HO.out.lt g rfl).1
    simp only [World.size_alloc] at hg
    repeat (refine Rds.setk ?_ (by omega) _)
    refine Rds.ext ?_ hb2
    repeat (refine Rds.setk ?_ (by omega) _)
    exact Rds.of_own HO.out
  · have hg2 := (HO2.out.lt g' rfl).1
    simp only [World.size_setCell] at hg2
    repeat (refine Rds.setk ?_ (by omega) _)
    exact Rds.of_own HO2.out
theorem eqWindow_any (N E : List P2) (A B A' B' : Option Addr) (c c' d d' : Nat) (w : World) (hN : N.length ≤ 1048576) (hE : E.length ≤ 1048576) (h : WR w N E A B c c') (h' : WR w N E A' B' d d') :
    Calls Try.prog 36 #[.agg #[.slice A N.length c, .slice B E.length c'], .agg #[.slice A' N.length d, .slice B' E.length d']] w fun e w' => e = .returned (.bool true) ∧ Ext w w' := by
  have H1 := hide h
  have H2 := hide h'
  clear h h'
  
  go_enter Try.func36, Try.ntmps36
  go_wp2_with fail
  obtain ⟨w0, hw⟩ : ∃ w1, w1 = (w.alloc (Obj.cells #[Value.slice A N.length c, Value.slice B E.length c'] 27)).alloc (Obj.cells #[Value.slice A' N.length d, Value.slice B' E.length d'] 27) := ⟨_, rfl⟩; rw [← hw]; have kT : Tr [(w.heap.size, [.slice A N.length c, .slice B E.length c']), (w.heap.size + 1, [.slice A' N.length d, .slice B' E.length d'])] w w0 := (by rw [hw]; exact ⟨by (first | (simp [Bx, CellsAt, go_sem, *]; done) | (simp [Bx, CellsAt, go_sem, *]; omega)), by (repeat (first | exact kE | exact Ext.refl _ | apply Ext.alloc | apply Ext.drewN | apply Ext.drew | apply Ext.set0 | apply Ext.set1 | apply Ext.set2 | apply Ext.set3 | (refine Ext.setk ?_ (by omega) _) | (apply Ext.snoc; assumption)))⟩); have HT := hide kT; clear hw kT; have kT := HT.out; simp only [Tr, Bx, CellsAt, Nat.reduceAdd, Nat.zero_add, and_true] at kT; obtain ⟨⟨⟨kz0, kf0, kc0_0, kc0_1⟩, ⟨kz1, kf1, kc1_0, kc1_1⟩⟩, kE⟩ := kT
  refine (eqNodeS_any N N A A' c d w0 hN hN (H1.out.hr.ext kE) (H2.out.hr.ext kE)).mono ?_
  rintro e w1 ⟨rfl, hb1⟩
  have HT1 := hide (HT.out.ext hb1)
  clear hb1 HT
  have HT := HT1
  clear HT1
  clear kz0 kf0 kc0_0 kc0_1 kz1 kf1 kc1_0 kc1_1 kE
  have kT := HT.out; simp only [Tr, Bx, CellsAt, Nat.reduceAdd, Nat.zero_add, and_true] at kT; obtain ⟨⟨⟨kz0, kf0, kc0_0, kc0_1⟩, ⟨kz1, kf1, kc1_0, kc1_1⟩⟩, kE⟩ := kT
  simp only [decide_true]
  go_wp2_with fail
  refine (eqLeadS_any E E B B' c' d' w1 hE hE (H1.out.hs.ext kE) (H2.out.hs.ext kE)).mono ?_
  rintro e w2 ⟨rfl, hb2⟩
  simp only [decide_true]
  go_wp2_with fail
  go_ret
  exact ⟨rfl, kE.trans hb2⟩
end Go.Proofs.Ytkgbilbicdiadaa
