/- Windows as a law's arguments: how they are opened, counted, copied, compared. No condition but that a list has at most 1048576 elements. -/
import Derived.Test.YtabgcpoaepafjaaGreatMem
import Derived.Test.YtabgcpoaepafjaaGreatGeo
set_option linter.unusedSimpArgs false
set_option linter.unusedVariables false
namespace Go.Proofs.YtabgcpoaepafjaaGreat
open Go.ChangeShapes Go.WideShapes Go.RowKit Go.Joins Go.Deep

section
variable {P : Program} {H : Type} {enc : TypeId × Value → H} {w : World}
theorem array2' {α : Type} {cs : Array α} (h : cs.size = 2) : ∃ a b, cs = #[a, b] := by
  obtain ⟨l⟩ := cs
  match l, h with
  | [a, b], _ => exact ⟨a, b, rfl⟩
/-- A struct of two slices of pairs. -/
theorem open_window {t tn tl en el fi : TypeId} {f0 f1 g0 g1 k0 k1 : Field} {b0 : Nat} {v : Value} {d : DataW H} {p : List MemPlace} (ht : P.underlying t = some (.struct #[f0, f1]))
    (hf0 : f0.type = tn) (hf1 : f1.type = tl) (hn : P.underlying tn = some (.slice en)) (hl : P.underlying tl = some (.slice el)) (hen : P.underlying en = some (.struct #[g0, g1])) (hel : P.underlying el = some (.struct #[k0, k1]))
    (hi : P.underlying fi = some (.int .i64)) (hg0 : g0.type = fi) (hg1 : g1.type = fi) (hk0 : k0.type = fi) (hk1 : k1.type = fi)
    (hone : oneCellFields P #[g0, g1] = true) (honek : oneCellFields P #[k0, k1] = true) (hC : P.cellsOf en = 2) (hCk : P.cellsOf el = 2) (hCt : P.cellsOf t = 2) (hCn : P.cellsOf tn = 1) (hCl : P.cellsOf tl = 1)
    (ho0 : f0.offset = 0) (ho1 : f1.offset = 1)
    (hv : Value.okWide P w .any b0 t v) (h : DataW.Trod enc P w 0 (fun _ => true) true t v d p) :
    ∃ (A B : Option Addr) (c c' : Nat) (l m : List P2), v = .agg #[.slice A l.length c, .slice B m.length c'] ∧ (l.length ≤ c ∧ c ≤ maxLen) ∧ (m.length ≤ c' ∧ c' ≤ maxLen) ∧ R2 w A l ∧ R2 w B m := by
  obtain ⟨cs, rfl, hsz⟩ := okWide_struct ht hv
  obtain ⟨c0, c1, rfl⟩ := array2' (hsz.trans hCt)
  obtain ⟨fuel, hf⟩ := h
  obtain ⟨y0, y1, n, _, _, h0, h1⟩ := Go.ChangeShapes.trod_struct2 ht hf
  rw [hf0, ho0, hCn] at h0
  rw [hf1, ho1, hCl] at h1
  simp only [Value.cells] at h0 h1
  obtain ⟨A, c, l, hcs, hlc, hm, hr⟩ := trod_slice2 hn hen hg0 hg1 hi hone hC h0
  obtain ⟨B, c', m, hcs', hlc', hm', hr'⟩ := trod_slice2 hl hel hk0 hk1 hi honek hCk h1
  refine ⟨A, B, c, c', l, m, ?_, ⟨hlc, hm⟩, ⟨hlc', hm'⟩, hr, hr'⟩
  have e0 : c0 = .slice A l.length c := by simpa using hcs
  have e1 : c1 = .slice B m.length c' := by simpa using hcs'
  rw [e0, e1]
end
def szW (N E : List P2) (left : Int) : Int := if left < N.length then -1 else szR E.length (left - N.length)
theorem szWindow_any (N E : List P2) (A B : Option Addr) (c c' : Nat) (left : Int) (w : World) (hN : N.length ≤ maxLen) (hE : E.length ≤ maxLen) (h0 : 0 ≤ left) (h1 : left ≤ 1048576) :
    Calls Tryz.prog 29 #[.agg #[.slice A N.length c, .slice B E.length c'], .int .i64 left] w fun e w' => e = .returned (.int .i64 (szW N E left)) ∧ Ext w w' := by
  by_cases h : left < N.length
  · have hs : szR N.length left = -1 := by simp [szR, h]
    have hv : szW N E left = -1 := by simp [szW, h]
    go_enter Tryz.func29, Tryz.ntmps29
    go_wp2_with (go_at_call 69; refine (szNodeS_any N A c left _ hN h0 h1).mono ?_; rintro e wq ⟨rfl, rfl⟩; rw [hs])
    go_ret
    exact ⟨ret_int hv.symm, by repeat (first | exact kE | exact Ext.refl _ | apply Ext.alloc | apply Ext.drewN | apply Ext.drew | apply Ext.set0 | apply Ext.set1 | apply Ext.set2 | apply Ext.set3 | (refine Ext.setk ?_ (by omega) _) | (apply Ext.snoc; assumption))⟩
  · have hs : szR N.length left = left - N.length := by unfold szR; rw [if_neg h]
    have hv : szW N E left = szR E.length (left - N.length) := by unfold szW; rw [if_neg h]
    have hq : ¬ left - N.length < 0 := by omega
    by_cases h2 : left - N.length < E.length
    · have hs2 : szR E.length (left - N.length) = -1 := by simp [szR, h2]
      go_enter Tryz.func29, Tryz.ntmps29
      go_wp2_with (first | (go_at_call 69; refine (szNodeS_any N A c left _ hN h0 h1).mono ?_; rintro e wq ⟨rfl, rfl⟩; rw [hs]) | (go_at_call 70; refine (szLeadS_any E B c' (left - N.length) _ hE (by omega) (by omega)).mono ?_; rintro e wq ⟨rfl, rfl⟩; rw [hs2]))
      go_ret
      exact ⟨ret_int (by rw [hv, hs2]), by repeat (first | exact kE | exact Ext.refl _ | apply Ext.alloc | apply Ext.drewN | apply Ext.drew | apply Ext.set0 | apply Ext.set1 | apply Ext.set2 | apply Ext.set3 | (refine Ext.setk ?_ (by omega) _) | (apply Ext.snoc; assumption))⟩
    · have hs2 : szR E.length (left - N.length) = left - N.length - E.length := by unfold szR; rw [if_neg h2]
      have hq2 : ¬ left - N.length - E.length < 0 := by omega
      go_enter Tryz.func29, Tryz.ntmps29
      go_wp2_with (first | (go_at_call 69; refine (szNodeS_any N A c left _ hN h0 h1).mono ?_; rintro e wq ⟨rfl, rfl⟩; rw [hs]) | (go_at_call 70; refine (szLeadS_any E B c' (left - N.length) _ hE (by omega) (by omega)).mono ?_; rintro e wq ⟨rfl, rfl⟩; rw [hs2]))
      go_ret
      exact ⟨ret_int (by rw [hv, hs2]), by repeat (first | exact kE | exact Ext.refl _ | apply Ext.alloc | apply Ext.drewN | apply Ext.drew | apply Ext.set0 | apply Ext.set1 | apply Ext.set2 | apply Ext.set3 | (refine Ext.setk ?_ (by omega) _) | (apply Ext.snoc; assumption))⟩
theorem szW_yes {N E : List P2} {left : Int} (h : ¬ szW N E left < 0) (h1 : left ≤ 1048576) : N.length ≤ 1048576 ∧ E.length ≤ 1048576 ∧ szW N E left = left - N.length - E.length := by
  unfold szW at *
  split at h
  · omega
  · rename_i hn
    rw [if_neg hn]
    unfold szR at *
    split at h
    · omega
    · rename_i hn2
      rw [if_neg hn2]
      omega
theorem toWindow_any (N E : List P2) (A B : Option Addr) (c c' : Nat) (w : World) (hN : N.length ≤ 1048576) (hE : E.length ≤ 1048576) (hr : R2 w A N) (hs : R2 w B E) :
    Calls Tryz.prog 32 #[.agg #[.slice A N.length c, .slice B E.length c']] w fun e w' => ∃ g g', e = .returned (.agg #[.slice (some ⟨g, 0, none⟩) N.length N.length, .slice (some ⟨g', 0, none⟩) E.length E.length]) ∧ WR w' N E (some ⟨g, 0, none⟩) (some ⟨g', 0, none⟩) N.length E.length ∧ Ext w w' := by
  have HR := hide hr
  have HS := hide hs
  clear hr hs
  go_enter Tryz.func32, Tryz.ntmps32
  go_wp2_with fail
  refine (toNodeS_any N A c _ hN (Rds.ext HR.out (by repeat (first | exact kE | exact Ext.refl _ | apply Ext.alloc | apply Ext.drewN | apply Ext.drew | apply Ext.set0 | apply Ext.set1 | apply Ext.set2 | apply Ext.set3 | (refine Ext.setk ?_ (by omega) _) | (apply Ext.snoc; assumption))))).mono ?_; rintro e w1 ⟨g, rfl, ho1, hb1⟩; have HO := hide ho1; clear ho1; obtain ⟨hc1, hf1, _⟩ := hb1.facts; have hs1 := hb1.size; (try simp only [World.size_alloc] at hs1); have hz1_0 : w.heap.size < w1.heap.size := (by omega); have hz1_1 : w.heap.size + 1 < w1.heap.size := (by omega); have hz1_2 : w.heap.size + 1 + 1 < w1.heap.size := (by omega)
  go_wp2_with fail
  refine (toLeadS_any E B c' _ hE (Rds.ext HS.out (by repeat (first | exact kE | exact Ext.refl _ | apply Ext.alloc | apply Ext.drewN | apply Ext.drew | apply Ext.set0 | apply Ext.set1 | apply Ext.set2 | apply Ext.set3 | (refine Ext.setk ?_ (by omega) _) | (apply Ext.snoc; assumption))))).mono ?_; rintro e w2 ⟨g', rfl, ho2, hb2⟩; have HO2 := hide ho2; clear ho2; obtain ⟨hc2, hf2, _⟩ := hb2.facts; have hs2 := hb2.size; (try simp only [World.size_alloc] at hs2)
  go_wp2_with fail
  refine bodyPost_ret (v := .agg #[.slice (some ⟨g, 0, none⟩) N.length N.length, .slice (some ⟨g', 0, none⟩) E.length E.length]) (by simp only [results, Tryz.results32]; go_simp) rfl ⟨g, g', rfl, ⟨hN, hE, Nat.le_refl _, Nat.le_refl _, ?_, ?_⟩, by repeat (first | exact kE | exact Ext.refl _ | apply Ext.alloc | apply Ext.drewN | apply Ext.drew | apply Ext.set0 | apply Ext.set1 | apply Ext.set2 | apply Ext.set3 | (refine Ext.setk ?_ (by omega) _) | (apply Ext.snoc; assumption))⟩
  · have hg := (HO.out.lt g rfl).1
    simp only [World.size_alloc] at hg
    repeat (refine Rds.setk ?_ (by omega) _)
    refine Rds.ext ?_ hb2
    repeat (refine Rds.setk ?_ (by omega) _)
    exact Rds.of_own HO.out
  · have hg2 := (HO2.out.lt g' rfl).1
    simp only [World.size_setCell] at hg2
    repeat (refine Rds.setk ?_ (by omega) _)
    exact Rds.of_own HO2.out
theorem eqWindow_any (N E : List P2) (A B A' B' : Option Addr) (c c' d d' : Nat) (w : World) (hN : N.length ≤ 1048576) (hE : E.length ≤ 1048576) (h : WR w N E A B c c') (h' : WR w N E A' B' d d') :
    Calls Tryz.prog 35 #[.agg #[.slice A N.length c, .slice B E.length c'], .agg #[.slice A' N.length d, .slice B' E.length d']] w fun e w' => e = .returned (.bool true) ∧ Ext w w' := by
  have H1 := hide h
  have H2 := hide h'
  clear h h'
  
  go_enter Tryz.func35, Tryz.ntmps35
  go_wp2_with fail
  obtain ⟨w0, hw⟩ : ∃ w1, w1 = (w.alloc (Obj.cells #[Value.slice A N.length c, Value.slice B E.length c'] 27)).alloc (Obj.cells #[Value.slice A' N.length d, Value.slice B' E.length d'] 27) := ⟨_, rfl⟩; rw [← hw]; have kT : Tr [(w.heap.size, [.slice A N.length c, .slice B E.length c']), (w.heap.size + 1, [.slice A' N.length d, .slice B' E.length d'])] w w0 := (by rw [hw]; exact ⟨by (first | (simp [Bx, CellsAt, go_sem, *]; done) | (simp [Bx, CellsAt, go_sem, *]; omega)), by (repeat (first | exact kE | exact Ext.refl _ | apply Ext.alloc | apply Ext.drewN | apply Ext.drew | apply Ext.set0 | apply Ext.set1 | apply Ext.set2 | apply Ext.set3 | (refine Ext.setk ?_ (by omega) _) | (apply Ext.snoc; assumption)))⟩); have HT := hide kT; clear hw kT; have kT := HT.out; simp only [Tr, Bx, CellsAt, Nat.reduceAdd, Nat.zero_add, and_true] at kT; obtain ⟨⟨⟨kz0, kf0, kc0_0, kc0_1⟩, ⟨kz1, kf1, kc1_0, kc1_1⟩⟩, kE⟩ := kT
  refine (eqNodeS_any N N A A' c d w0 hN hN (H1.out.hr.ext kE) (H2.out.hr.ext kE)).mono ?_
  rintro e w1 ⟨rfl, hb1⟩
  have HT1 := hide (HT.out.ext hb1)
  clear hb1 HT
  have HT := HT1
  clear HT1
  clear kz0 kf0 kc0_0 kc0_1 kz1 kf1 kc1_0 kc1_1 kE
  have kT := HT.out; simp only [Tr, Bx, CellsAt, Nat.reduceAdd, Nat.zero_add, and_true] at kT; obtain ⟨⟨⟨kz0, kf0, kc0_0, kc0_1⟩, ⟨kz1, kf1, kc1_0, kc1_1⟩⟩, kE⟩ := kT
  simp only [decide_true]
  go_wp2_with fail
  refine (eqLeadS_any E E B B' c' d' w1 hE hE (H1.out.hs.ext kE) (H2.out.hs.ext kE)).mono ?_
  rintro e w2 ⟨rfl, hb2⟩
  simp only [decide_true]
  go_wp2_with fail
  go_ret
  exact ⟨rfl, kE.trans hb2⟩
end Go.Proofs.YtabgcpoaepafjaaGreat
namespace Go.Proofs.YtabgcpoaepafjaaGreat
open Go.RowKit


theorem CellsAt.grown {w w' : World} {b : Nat} {row : Option Nat} (hg : w.grownBy w' row) (hb : b < w.heap.size) (hne : row ≠ some b) : ∀ {i : Nat} {vs : List Value}, CellsAt w b i vs → CellsAt w' b i vs
  | _, [], _ => trivial
  | i, _ :: _, h => ⟨by rw [← h.1]; simp only [World.cell?]; rw [hg.block b hb (fun e => hne e.symm)], CellsAt.grown hg hb hne h.2⟩
theorem Bx.grown {w w' W0 : World} {row : Option Nat} (hg : w.grownBy w' row) (hr : ∀ k, row = some k → W0.heap.size ≤ k) : ∀ {bs : List (Nat × List Value)}, Bx bs W0 → Bx bs w → Bx bs w'
  | [], _, _ => trivial
  | (b, _) :: _, h0, h => by
    have hne : row ≠ some b := fun e => by have := hr b e; have := h0.1.1; omega
    refine ⟨⟨Nat.lt_of_lt_of_le h.1.1 hg.size, fun i => ?_, CellsAt.grown hg h.1.1 hne h.1.2.2⟩, Bx.grown hg hr h0.2 h.2⟩
    rw [← h.1.2.1 i]
    simp only [World.frozen?]
    rw [hg.block b h.1.1 (fun e => hne e.symm)]
theorem Tr.grown {bs : List (Nat × List Value)} {a w w' W0 : World} {row : Option Nat} (h : Tr bs a w) (h0 : Tr bs a W0) (hg : w.grownBy w' row) (hr : ∀ k, row = some k → W0.heap.size ≤ k) : Tr bs a w' :=
  ⟨Bx.grown hg hr h0.1 h.1, h.2.grown hg (fun k hk => Nat.le_trans h0.2.size (hr k hk))⟩
theorem Tr.drew {bs : List (Nat × List Value)} {a w : World} (h : Tr bs a w) : Tr bs a w.drew := ⟨Bx.ext ((Ext.refl w).drew) h.1, h.2.drew⟩
/-- None of the boxes is the row. -/
def Ap (row : Option Nat) : List (Nat × List Value) → Prop
  | [] => True
  | (b, _) :: r => row ≠ some b ∧ Ap row r
theorem Bx.grownA {w w' : World} {row : Option Nat} (hg : w.grownBy w' row) : ∀ {bs : List (Nat × List Value)}, Ap row bs → Bx bs w → Bx bs w'
  | [], _, _ => trivial
  | (b, _) :: _, h0, h => by
    refine ⟨⟨Nat.lt_of_lt_of_le h.1.1 hg.size, fun i => ?_, CellsAt.grown hg h.1.1 h0.1 h.1.2.2⟩, Bx.grownA hg h0.2 h.2⟩
    rw [← h.1.2.1 i]
    simp only [World.frozen?]
    rw [hg.block b h.1.1 (fun e => h0.1 e.symm)]
theorem Tr.grownA {bs : List (Nat × List Value)} {a w w' : World} {row : Option Nat} (h : Tr bs a w) (hg : w.grownBy w' row) (hr : ∀ k, row = some k → a.heap.size ≤ k) (ha : Ap row bs) : Tr bs a w' :=
  ⟨Bx.grownA hg ha h.1, h.2.grown hg hr⟩

/-- The numbers k, k + 1, .. -/
def marks (k : Int) (m : Nat) : List Int := (List.range m).map fun (j : Nat) => k + j
theorem marks_length (k : Int) (m : Nat) : (marks k m).length = m := by simp [marks]
theorem marks_get {k : Int} {m j : Nat} (h : j < m) : (encI (marks k m))[j]? = some (.int .i64 (k + j)) := by simp [marks, encI, h]
theorem marks_succ (k : Int) (m : Nat) : encI (marks k (m + 1)) = encI (marks k m) ++ [.int .i64 (k + m)] := by
  simp [marks, encI, List.range_succ]
theorem take_set_at (xs : List Value) (m : Nat) (a : Value) (h : m < xs.length) : (xs.set m a).take (m + 1) = xs.take m ++ [a] := by
  rw [List.take_succ_eq_append_getElem (by simpa using h)]
  simp [List.take_set_of_le]
/-- Storing the next mark. -/
theorem marks_step {xs : List Value} {k : Int} {m : Nat} {v : Int} (h : xs.take m = encI (marks k m)) (hm : m < xs.length) (hv : v = k + m) : (xs.set m (.int .i64 v)).take (m + 1) = encI (marks k (m + 1)) := by
  subst hv
  rw [take_set_at _ _ _ hm, h, marks_succ]

theorem own_apart {w : World} {base n sz : Nat} {e : TypeId} {v : Value} {xs : List Value} (h : w.ownsRow base e sz v n xs) (b : Nat) (hb : b < base) : v.ownBlock ≠ some b := fun q => by
  have := (h.lt b q).1
  omega
theorem toWindow_own (N E : List P2) (A B : Option Addr) (c c' : Nat) (w : World) (hN : N.length ≤ 1048576) (hE : E.length ≤ 1048576) (hr : R2 w A N) (hs : R2 w B E) :
    Calls Tryz.prog 32 #[.agg #[.slice A N.length c, .slice B E.length c']] w fun e w' => ∃ (g g' : Nat) (wm : World), e = .returned (.agg #[.slice (some ⟨g, 0, none⟩) N.length N.length, .slice (some ⟨g', 0, none⟩) E.length E.length]) ∧ wm.ownsRow w.heap.size 84 2 (.slice (some ⟨g, 0, none⟩) N.length N.length) N.length (enc2 N) ∧ w'.ownsRow w.heap.size 84 2 (.slice (some ⟨g, 0, none⟩) N.length N.length) N.length (enc2 N) ∧ w'.ownsRow wm.heap.size 110 2 (.slice (some ⟨g', 0, none⟩) E.length E.length) E.length (enc2 E) ∧ w.heap.size ≤ wm.heap.size ∧ wm.heap.size ≤ w'.heap.size ∧ Ext w w' := by
  have HR := hide hr
  have HS := hide hs
  clear hr hs
  go_enter Tryz.func32, Tryz.ntmps32
  go_wp2_with fail
  refine (toNodeS_any N A c _ hN (Rds.ext HR.out (by repeat (first | exact kE | exact Ext.refl _ | apply Ext.alloc | apply Ext.drewN | apply Ext.drew | apply Ext.set0 | apply Ext.set1 | apply Ext.set2 | apply Ext.set3 | (refine Ext.setk ?_ (by omega) _) | (apply Ext.snoc; assumption))))).mono ?_; rintro e w1 ⟨g, rfl, ho1, hb1⟩; have HO := hide ho1; clear ho1; obtain ⟨hc1, hf1, _⟩ := hb1.facts; have hs1 := hb1.size; (try simp only [World.size_alloc] at hs1); have hz1_0 : w.heap.size < w1.heap.size := (by omega); have hz1_1 : w.heap.size + 1 < w1.heap.size := (by omega); have hz1_2 : w.heap.size + 1 + 1 < w1.heap.size := (by omega)
  have HOm := hide (show (w1.setCell ⟨w.heap.size + 1 + 1, 0, none⟩ (.slice (some ⟨g, 0, none⟩) N.length N.length)).ownsRow (w.heap.size + 1 + 1 + 1) 84 2 (.slice (some ⟨g, 0, none⟩) N.length N.length) N.length (enc2 N) from by
    have h := HO.out
    simp only [World.size_alloc] at h
    exact ownsRow_setCell_below h (a := ⟨w.heap.size + 1 + 1, 0, none⟩) (by show w.heap.size + 1 + 1 < w.heap.size + 1 + 1 + 1; omega) _)
  go_wp2_with fail
  refine (toLeadS_any E B c' _ hE (Rds.ext HS.out (by repeat (first | exact kE | exact Ext.refl _ | apply Ext.alloc | apply Ext.drewN | apply Ext.drew | apply Ext.set0 | apply Ext.set1 | apply Ext.set2 | apply Ext.set3 | (refine Ext.setk ?_ (by omega) _) | (apply Ext.snoc; assumption))))).mono ?_; rintro e w2 ⟨g', rfl, ho2, hb2⟩; have HO2 := hide ho2; clear ho2; obtain ⟨hc2, hf2, _⟩ := hb2.facts; have hs2 := hb2.size; (try simp only [World.size_alloc] at hs2)
  go_wp2_with fail
  have hsz2 := hb2.size
  simp only [World.size_setCell] at hsz2
  refine bodyPost_ret (v := .agg #[.slice (some ⟨g, 0, none⟩) N.length N.length, .slice (some ⟨g', 0, none⟩) E.length E.length]) (by simp only [results, Tryz.results32]; go_simp) rfl ⟨g, g', _, rfl, own_mono HOm.out (by omega), ?_, ?_, ?_, ?_, by repeat (first | exact kE | exact Ext.refl _ | apply Ext.alloc | apply Ext.drewN | apply Ext.drew | apply Ext.set0 | apply Ext.set1 | apply Ext.set2 | apply Ext.set3 | (refine Ext.setk ?_ (by omega) _) | (apply Ext.snoc; assumption))⟩
  · exact own_mono (ownsRow_setCell_below (ownsRow_setCell_below (ownsRow_setCell_below (own_ext HOm.out hb2) (by show w.heap.size + 1 + 1 < _; omega) _) (by show w.heap.size + 1 < _; omega) _) (by show w.heap.size + 1 < _; omega) _) (by omega)
  · have h2 := HO2.out
    simp only [World.size_setCell] at h2 ⊢
    exact ownsRow_setCell_below (ownsRow_setCell_below (ownsRow_setCell_below h2 (by show w.heap.size + 1 + 1 < _; omega) _) (by show w.heap.size + 1 < _; omega) _) (by show w.heap.size + 1 < _; omega) _
  · simp only [World.size_setCell]; omega
  · simp only [World.size_setCell]; omega
theorem markIntS_any (n : Nat) (A : Option Addr) (c base : Nat) (xs : List Value) (k : Int) (w : World) (hn : n ≤ 1048576) (hk : 0 ≤ k) (hk' : k ≤ 1000000000) (h : w.ownsRow base 3 1 (.slice A n c) n xs) :
    Calls Tryz.prog 39 #[.slice A n c, .int .i64 k] w fun e w' => e = .returned (.int .i64 (k + 1 * n)) ∧ w'.ownsRow base 3 1 (.slice A n c) n (encI (marks k (n * 1))) ∧ w.grownBy w' (Value.slice A n c).ownBlock := by
  have HO := hide h
  have HF := hide (own_slice h)
  clear h
  go_enter Tryz.func39, Tryz.ntmps39
  go_wp2
  go_loopw [1, 5] (fun q i wr => ∃ j : Nat, j ≤ n ∧ i = .int .i64 j ∧ q = .int .i64 (k + 1 * j) ∧ (∃ ys, wr.ownsRow base 3 1 (.slice A n c) n ys ∧ ys.take (j * 1) = encI (marks k (j * 1))) ∧ w.grownBy wr (Value.slice A n c).ownBlock) (fun _ i _ => n - (intOf i).toNat)
  case atStart => exact ⟨0, Nat.zero_le _, rfl, by simp, ⟨xs, HO.out, by simp [marks, encI]⟩, World.grownBy.refl _ _⟩
  case round =>
    obtain ⟨j, hj, rfl, rfl, ⟨ys, hown, hy⟩, hg⟩ := hrel
    have HY := hide hy
    have HG := hide hg
    have HL := hide hown.1
    clear hy hg
    by_cases hlt : j < n
    · obtain ⟨A', c', e1, _, hA0, hA1⟩ := HF.out
      injection e1 with e1 e2 e3
      subst e1 e3
      obtain ⟨a, rfl⟩ : ∃ a, A = some a := by
        cases A with
        | none => exact absurd (hA0 rfl) (by omega)
        | some a => exact ⟨a, rfl⟩
      obtain ⟨g, rfl, _, _, _⟩ := hA1 a rfl
      clear hA0 hA1
      obtain ⟨v0, hd0⟩ := own_cell hown j (by omega)
      have hf0 := hown.frozenAt j
      have HW := hide hown
      clear hown
      go_wp2
      go_roundw
      case rel =>
        have hl := HL.out
        have s0 := (HW.out).stored (j) (.int .i64 (k + j))
        refine ⟨j + 1, by omega, by go_num, by go_num, ⟨_, s0.1, ?_⟩, World.grownBy.trans (HG.out) (s0.2)⟩
        have m0 : _ := HY.out
        have m1 := marks_step (v := k + j) m0 (by (try simp); omega) (by (try push_cast); omega)
        have e : (j + 1) * 1 = j * 1 + 1 := by omega
        rw [e]
        rw [Nat.mul_one] at m1 ⊢
        exact m1
      case measure => simp [intOf]; omega
    · have hjn : j = n := by omega
      subst hjn
      go_wp2
      go_ret
      have hy := HY.out
      rw [List.take_of_length_le (by rw [HL.out]; omega)] at hy
      rw [hy] at hown
      exact ⟨rfl, hown, HG.out⟩
theorem heldIntS_any (n : Nat) (A : Option Addr) (c : Nat) (k : Int) (w : World) (hn : n ≤ 1048576) (hk : 0 ≤ k) (hk' : k ≤ 1000000000) (h : Rds w 1 A n (encI (marks k (n * 1)))) :
    Calls Tryz.prog 40 #[.slice A n c, .int .i64 k] w fun e w' => e = .returned (.int .i64 (k + 1 * n)) ∧ Ext w w' := by
  have HR := hide h
  clear h
  go_enter Tryz.func40, Tryz.ntmps40
  go_wp2
  go_loopw [1, 5] (fun q i wr => ∃ j : Nat, j ≤ n ∧ i = .int .i64 j ∧ q = .int .i64 (k + 1 * j) ∧ Ext w wr) (fun _ i _ => n - (intOf i).toNat)
  case atStart => exact ⟨0, Nat.zero_le _, rfl, by simp, Ext.refl _⟩
  case round =>
    obtain ⟨j, hj, rfl, rfl, hE⟩ := hrel
    by_cases hlt : j < n
    · obtain ⟨b, off, rfl, hb, hc⟩ := (HR.out.ext hE).2 (by omega)
      have e0 := hc j _ (marks_get (by omega))
      have g0 : k + ((j : Nat) : Int) = k + 1 * j := by omega
      rw [g0] at e0
      clear g0
      clear hc
      go_wp2
      (try go_quiet (fail); go_wp2)
      go_roundw
      case rel => exact ⟨j + 1, by omega, by go_num, by go_num, by repeat (first | exact kE | exact Ext.refl _ | apply Ext.alloc | apply Ext.drewN | apply Ext.drew | apply Ext.set0 | apply Ext.set1 | apply Ext.set2 | apply Ext.set3 | (refine Ext.setk ?_ (by omega) _) | (apply Ext.snoc; assumption))⟩
      case measure => simp [intOf]; omega
    · have hjn : j = n := by omega
      subst hjn
      go_wp2
      go_ret
      exact ⟨rfl, hE⟩
theorem markNodeS_any (n : Nat) (A : Option Addr) (c base : Nat) (xs : List Value) (k : Int) (w : World) (hn : n ≤ 1048576) (hk : 0 ≤ k) (hk' : k ≤ 1000000000) (h : w.ownsRow base 84 2 (.slice A n c) n xs) :
    Calls Tryz.prog 76 #[.slice A n c, .int .i64 k] w fun e w' => e = .returned (.int .i64 (k + 2 * n)) ∧ w'.ownsRow base 84 2 (.slice A n c) n (encI (marks k (n * 2))) ∧ w.grownBy w' (Value.slice A n c).ownBlock := by
  have HO := hide h
  have HF := hide (own_slice h)
  clear h
  go_enter Tryz.func76, Tryz.ntmps76
  go_wp2
  go_loopw [1, 5] (fun q i wr => ∃ j : Nat, j ≤ n ∧ i = .int .i64 j ∧ q = .int .i64 (k + 2 * j) ∧ (∃ ys, wr.ownsRow base 84 2 (.slice A n c) n ys ∧ ys.take (j * 2) = encI (marks k (j * 2))) ∧ w.grownBy wr (Value.slice A n c).ownBlock) (fun _ i _ => n - (intOf i).toNat)
  case atStart => exact ⟨0, Nat.zero_le _, rfl, by simp, ⟨xs, HO.out, by simp [marks, encI]⟩, World.grownBy.refl _ _⟩
  case round =>
    obtain ⟨j, hj, rfl, rfl, ⟨ys, hown, hy⟩, hg⟩ := hrel
    have HY := hide hy
    have HG := hide hg
    have HL := hide hown.1
    clear hy hg
    by_cases hlt : j < n
    · obtain ⟨A', c', e1, _, hA0, hA1⟩ := HF.out
      injection e1 with e1 e2 e3
      subst e1 e3
      obtain ⟨a, rfl⟩ : ∃ a, A = some a := by
        cases A with
        | none => exact absurd (hA0 rfl) (by omega)
        | some a => exact ⟨a, rfl⟩
      obtain ⟨g, rfl, _, _, _⟩ := hA1 a rfl
      clear hA0 hA1
      obtain ⟨v0, hd0⟩ := own_cell hown (j * 2 + 0) (by omega)
      have hf0 := hown.frozenAt (j * 2)
      simp only [Nat.add_zero] at hd0
      obtain ⟨v1, hd1⟩ := own_cell hown (j * 2 + 1) (by omega)
      have hf1 := hown.frozenAt (j * 2 + 1)
      have HW := hide hown
      clear hown
      go_wp2
      go_roundw
      case rel =>
        have hl := HL.out
        have s0 := (HW.out).stored (j * 2) (.int .i64 (k + 2 * j))
        have s1 := (s0.1).stored (j * 2 + 1) (.int .i64 (k + 2 * j + 1))
        refine ⟨j + 1, by omega, by go_num, by go_num, ⟨_, s1.1, ?_⟩, World.grownBy.trans (World.grownBy.trans (HG.out) (s0.2)) (s1.2)⟩
        have m0 : _ := HY.out
        have m1 := marks_step (v := k + 2 * j) m0 (by (try simp); omega) (by (try push_cast); omega)
        have m2 := marks_step (v := k + 2 * j + 1) m1 (by (try simp); omega) (by (try push_cast); omega)
        have e : (j + 1) * 2 = j * 2 + 1 + 1 := by omega
        rw [e]
        exact m2
      case measure => simp [intOf]; omega
    · have hjn : j = n := by omega
      subst hjn
      go_wp2
      go_ret
      have hy := HY.out
      rw [List.take_of_length_le (by rw [HL.out]; omega)] at hy
      rw [hy] at hown
      exact ⟨rfl, hown, HG.out⟩
theorem markLeadS_any (n : Nat) (A : Option Addr) (c base : Nat) (xs : List Value) (k : Int) (w : World) (hn : n ≤ 1048576) (hk : 0 ≤ k) (hk' : k ≤ 1000000000) (h : w.ownsRow base 110 2 (.slice A n c) n xs) :
    Calls Tryz.prog 77 #[.slice A n c, .int .i64 k] w fun e w' => e = .returned (.int .i64 (k + 2 * n)) ∧ w'.ownsRow base 110 2 (.slice A n c) n (encI (marks k (n * 2))) ∧ w.grownBy w' (Value.slice A n c).ownBlock := by
  have HO := hide h
  have HF := hide (own_slice h)
  clear h
  go_enter Tryz.func77, Tryz.ntmps77
  go_wp2
  go_loopw [1, 5] (fun q i wr => ∃ j : Nat, j ≤ n ∧ i = .int .i64 j ∧ q = .int .i64 (k + 2 * j) ∧ (∃ ys, wr.ownsRow base 110 2 (.slice A n c) n ys ∧ ys.take (j * 2) = encI (marks k (j * 2))) ∧ w.grownBy wr (Value.slice A n c).ownBlock) (fun _ i _ => n - (intOf i).toNat)
  case atStart => exact ⟨0, Nat.zero_le _, rfl, by simp, ⟨xs, HO.out, by simp [marks, encI]⟩, World.grownBy.refl _ _⟩
  case round =>
    obtain ⟨j, hj, rfl, rfl, ⟨ys, hown, hy⟩, hg⟩ := hrel
    have HY := hide hy
    have HG := hide hg
    have HL := hide hown.1
    clear hy hg
    by_cases hlt : j < n
    · obtain ⟨A', c', e1, _, hA0, hA1⟩ := HF.out
      injection e1 with e1 e2 e3
      subst e1 e3
      obtain ⟨a, rfl⟩ : ∃ a, A = some a := by
        cases A with
        | none => exact absurd (hA0 rfl) (by omega)
        | some a => exact ⟨a, rfl⟩
      obtain ⟨g, rfl, _, _, _⟩ := hA1 a rfl
      clear hA0 hA1
      obtain ⟨v0, hd0⟩ := own_cell hown (j * 2 + 0) (by omega)
      have hf0 := hown.frozenAt (j * 2)
      simp only [Nat.add_zero] at hd0
      obtain ⟨v1, hd1⟩ := own_cell hown (j * 2 + 1) (by omega)
      have hf1 := hown.frozenAt (j * 2 + 1)
      have HW := hide hown
      clear hown
      go_wp2
      go_roundw
      case rel =>
        have hl := HL.out
        have s0 := (HW.out).stored (j * 2) (.int .i64 (k + 2 * j))
        have s1 := (s0.1).stored (j * 2 + 1) (.int .i64 (k + 2 * j + 1))
        refine ⟨j + 1, by omega, by go_num, by go_num, ⟨_, s1.1, ?_⟩, World.grownBy.trans (World.grownBy.trans (HG.out) (s0.2)) (s1.2)⟩
        have m0 : _ := HY.out
        have m1 := marks_step (v := k + 2 * j) m0 (by (try simp); omega) (by (try push_cast); omega)
        have m2 := marks_step (v := k + 2 * j + 1) m1 (by (try simp); omega) (by (try push_cast); omega)
        have e : (j + 1) * 2 = j * 2 + 1 + 1 := by omega
        rw [e]
        exact m2
      case measure => simp [intOf]; omega
    · have hjn : j = n := by omega
      subst hjn
      go_wp2
      go_ret
      have hy := HY.out
      rw [List.take_of_length_le (by rw [HL.out]; omega)] at hy
      rw [hy] at hown
      exact ⟨rfl, hown, HG.out⟩
set_option maxHeartbeats 1000000 in
theorem markWindow_any (n m : Nat) (A B : Option Addr) (c c' b1 b2 : Nat) (xs ys : List Value) (k : Int) (w : World) (hn : n ≤ 1048576) (hm : m ≤ 1048576) (hk : 0 ≤ k) (hk' : k ≤ 1000) (h : w.ownsRow b1 84 2 (.slice A n c) n xs) (h2 : w.ownsRow b2 110 2 (.slice B m c') m ys)
    (ha : (Value.slice B m c').ownBlock = none ∨ (Value.slice B m c').ownBlock ≠ (Value.slice A n c).ownBlock) (hA : ∀ q, (Value.slice A n c).ownBlock = some q → q < w.heap.size) :
    Calls Tryz.prog 37 #[.agg #[.slice A n c, .slice B m c'], .int .i64 k] w fun e w' => ∃ w1 w2, e = .returned (.int .i64 (k + 2 * n + 2 * m)) ∧ Ext w w1 ∧ w1.grownBy w2 (Value.slice A n c).ownBlock ∧ w2.grownBy w' (Value.slice B m c').ownBlock := by
  have HO := hide h
  have HO2 := hide h2
  have HA := hide ha
  have HL := hide hA
  clear h h2 ha hA
  
  go_enter Tryz.func37, Tryz.ntmps37
  go_wp2_with fail
  obtain ⟨w0, hw⟩ : ∃ w1, w1 = w.alloc (Obj.cells #[Value.slice A n c, Value.slice B m c'] 27) := ⟨_, rfl⟩; rw [← hw]; have kT : Tr [(w.heap.size, [.slice A n c, .slice B m c'])] w w0 := (by rw [hw]; exact ⟨by (first | (simp [Bx, CellsAt, go_sem, *]; done) | (simp [Bx, CellsAt, go_sem, *]; omega)), by (repeat (first | exact kE | exact Ext.refl _ | apply Ext.alloc | apply Ext.drewN | apply Ext.drew | apply Ext.set0 | apply Ext.set1 | apply Ext.set2 | apply Ext.set3 | (refine Ext.setk ?_ (by omega) _) | (apply Ext.snoc; assumption)))⟩); have HT := hide kT; clear hw kT; have kT := HT.out; simp only [Tr, Bx, CellsAt, Nat.reduceAdd, Nat.zero_add, and_true] at kT; obtain ⟨⟨kz0, kf0, kc0_0, kc0_1⟩, kE⟩ := kT
  refine (markNodeS_any n A c b1 xs k w0 hn hk (by omega) (own_ext HO.out kE)).mono ?_
  rintro e w2 ⟨rfl, ho, hg⟩
  have HG := hide hg
  have HO3 := hide (World.ownsRow.kept (own_ext HO2.out kE) hg HA.out)
  have hbx := Bx.grownA hg (bs := [(w.heap.size, [Value.slice A n c, Value.slice B m c'])]) ⟨fun q => by have := HL.out _ q; omega, trivial⟩ HT.out.1
  simp only [Bx, CellsAt, Nat.reduceAdd, Nat.zero_add, and_true] at hbx
  have HKE := hide kE
  clear ho hg HT
  clear kz0 kf0 kc0_0 kc0_1 kE
  obtain ⟨kz0, kf0, kc0_0, kc0_1⟩ := hbx
  go_wp2_with fail
  refine (markLeadS_any m B c' b2 ys (k + 2 * n) w2 hm (by omega) (by omega) HO3.out).mono ?_
  rintro e w3 ⟨rfl, ho, hg⟩
  have HG2 := hide hg
  clear ho hg
  go_wp2_with fail
  go_ret
  exact ⟨w0, w2, rfl, HKE.out, HG.out, HG2.out⟩
end Go.Proofs.YtabgcpoaepafjaaGreat
