/- Walks of the draws of stains. No condition but that the bytes are at most 1048576. -/
import Derived.Test.YtlpononcpocmoaaDoorDraw
import Derived.Test.YtlpononcpocmoaaDoorTrackG
import Derived.Deep.RegionWith
import Derived.IntWalk
set_option linter.unusedSimpArgs false
set_option linter.unusedVariables false
namespace Go.Proofs.YtlpononcpocmoaaDoor
open Go.RowKit

section
variable {w w' : World} {g : Nat}
theorem grown_cells (h : w.grownBy w' (some g)) : ∀ q o, q < w.heap.size → q ≠ g → w'.cell? ⟨q, o, none⟩ = w.cell? ⟨q, o, none⟩ := fun q o hq hn => by
  simp only [World.cell?]
  rw [h.block q hq (fun e => hn (by injection e))]
theorem grown_frz (h : w.grownBy w' (some g)) : ∀ q o, q < w.heap.size → q ≠ g → w'.frozen? ⟨q, o, none⟩ = w.frozen? ⟨q, o, none⟩ := fun q o hq hn => by
  simp only [World.frozen?]
  rw [h.block q hq (fun e => hn (by injection e))]
theorem grown_lt (h : w.grownBy w' (some g)) : ∀ q, q < w.heap.size → q < w'.heap.size := fun q hq => Nat.lt_of_lt_of_le hq h.size
theorem grown_new (h : w.grownBy w' (some g)) {k : Nat} (hk : w.heap.size ≤ k) (i : Nat) (v : Value) : w.grownBy (w'.setCell ⟨k, i, none⟩ v) (some g) :=
  ⟨h.os, h.tape, h.output, by simpa using h.size, fun q hq hn => (Below.heap_setCell _ _ _ _ (show q ≠ k by omega)).trans (h.block q hq hn)⟩
theorem grown_alloc (h : w.grownBy w' (some g)) (o : Obj) : w.grownBy (w'.alloc o) (some g) := h.trans (World.grownBy_alloc w' o _)
end
theorem six_cells {w : World} {g : Nat} {u0 u1 u2 v0 v1 v2 a b d x y z : Value} (h0 : w.cell? ⟨g, 0, none⟩ = some u0) (h1 : w.cell? ⟨g, 1, none⟩ = some u1) (h2 : w.cell? ⟨g, 2, none⟩ = some u2)
    (k0 : w.cell? ⟨g + 1, 0, none⟩ = some v0) (k1 : w.cell? ⟨g + 1, 1, none⟩ = some v1) (k2 : w.cell? ⟨g + 1, 2, none⟩ = some v2) :
    let w' := (((((w.setCell ⟨g, 0, none⟩ a).setCell ⟨g, 1, none⟩ b).setCell ⟨g, 2, none⟩ d).setCell ⟨g + 1, 0, none⟩ x).setCell ⟨g + 1, 1, none⟩ y).setCell ⟨g + 1, 2, none⟩ z
    w'.cell? ⟨g, 0, none⟩ = some a ∧ w'.cell? ⟨g, 1, none⟩ = some b ∧ w'.cell? ⟨g, 2, none⟩ = some d ∧ w'.cell? ⟨g + 1, 0, none⟩ = some x ∧ w'.cell? ⟨g + 1, 1, none⟩ = some y ∧ w'.cell? ⟨g + 1, 2, none⟩ = some z := by
  intro w'
  refine ⟨?_, ?_, ?_, ?_, ?_, ?_⟩ <;> simp [w', World.cell?_setCell_other, World.cell?_setCell_same', h0, h1, h2, k0, k1, k2]
set_option maxHeartbeats 1000000 in
theorem l23Stain_any (g : Nat) (l : List Int) (w : World) (hl : l.length ≤ 1048576) (hc : Cur w g l) :
    Calls Tryd.prog 19 #[.pointer (some ⟨g, 0, none⟩)] w fun e w' => ∃ a b c, e = .returned (.agg #[.int .i64 a, .int .i64 b, .int .i64 c]) ∧ (0 ≤ a ∧ a ≤ 1000 ∧ 0 ≤ b ∧ b ≤ 1000 ∧ 0 ≤ c ∧ c ≤ 1000) ∧ Cur w' g l ∧ w.grownBy w' (some g) := by
  have HC := hide hc
  have hgl := hc.lt
  clear hc
  go_enter Tryd.func19, Tryd.ntmps19
  go_wp2_with fail
  obtain ⟨w0, hw⟩ : ∃ w0, w0 = w.alloc (Obj.cells #[Value.int IntKind.i64 0, Value.int IntKind.i64 0, Value.int IntKind.i64 0] 25) := ⟨_, rfl⟩
  have c0 : w0.cell? ⟨w.heap.size, 0, none⟩ = some (.int .i64 0) := by rw [hw]; simp [go_sem]
  have c1 : w0.cell? ⟨w.heap.size, 1, none⟩ = some (.int .i64 0) := by rw [hw]; simp [go_sem]
  have c2 : w0.cell? ⟨w.heap.size, 2, none⟩ = some (.int .i64 0) := by rw [hw]; simp [go_sem]
  have cf : ∀ i, w0.frozen? ⟨w.heap.size, i, none⟩ = false := by intro i; rw [hw]; simp [go_sem]
  have cz : w.heap.size < w0.heap.size := by rw [hw]; simp
  have hc0 : Cur w0 g l := by rw [hw]; exact HC.out.ext ((Ext.refl _).alloc _)
  have hg0 : w.grownBy w0 (some g) := by rw [hw]; exact World.grownBy_alloc w _ _
  have hng : w.heap.size ≠ g := by omega
  rw [← hw]
  clear hw
  have HC0 := hide hc0
  have HG0 := hide hg0
  clear hc0 hg0
  refine (l01Below_any g 251 l _ hl (by omega) (by omega) HC0.out).mono ?_; rintro e w1 ⟨x, rfl, hx0, hx1, hc1, hg1⟩
  have kc := grown_cells hg1
  have kf := grown_frz hg1
  have kz := grown_lt hg1
  have HC1 := hide hc1
  have HG1 := hide (HG0.out.trans hg1)
  clear hc1 hg1
  go_wp2_with fail
  refine (l01Below_any g 251 l _ hl (by omega) (by omega) HC1.out).mono ?_; rintro e w2 ⟨y, rfl, hy0, hy1, hc2, hg2⟩
  have d0 := (grown_cells hg2 _ 0 (kz _ cz) hng).trans ((kc _ 0 cz hng).trans c0)
  have d1 := (grown_cells hg2 _ 1 (kz _ cz) hng).trans ((kc _ 1 cz hng).trans c1)
  have d2 := (grown_cells hg2 _ 2 (kz _ cz) hng).trans ((kc _ 2 cz hng).trans c2)
  have df := fun i => (grown_frz hg2 _ i (kz _ cz) hng).trans ((kf _ i cz hng).trans (cf i))
  have dz := grown_lt hg2 _ (kz _ cz)
  have HC2 := hide hc2
  have HG2 := hide (HG1.out.trans hg2)
  clear hc2 hg2 kc kf kz c0 c1 c2 cf cz
  go_wp2_with fail
  refine (l01Below_any g 251 l _ hl (by omega) (by omega) HC2.out).mono ?_; rintro e w3 ⟨z, rfl, hz0, hz1, hc3, hg3⟩
  have e0 := (grown_cells hg3 _ 0 dz hng).trans d0
  have e1 := (grown_cells hg3 _ 1 dz hng).trans d1
  have e2 := (grown_cells hg3 _ 2 dz hng).trans d2
  have ef := fun i => (grown_frz hg3 _ i dz hng).trans (df i)
  have ez := grown_lt hg3 _ dz
  have HC3 := hide hc3
  have HG3 := hide (HG2.out.trans hg3)
  clear hc3 hg3 d0 d1 d2 df dz
  go_wp2_with fail
  refine bodyPost_ret (v := .agg #[.int .i64 (4 * x), .int .i64 (4 * y), .int .i64 (4 * z)]) (by simp only [results, Tryd.results19]; go_simp) rfl ⟨_, _, _, rfl, ⟨by omega, by omega, by omega, by omega, by omega, by omega⟩, ((HC3.out.setk hgl _ _).setk hgl _ _).setk hgl _ _, grown_new (grown_new (grown_new HG3.out (Nat.le_refl _) _ _) (Nat.le_refl _) _ _) (Nat.le_refl _) _ _⟩
set_option maxHeartbeats 2000000 in
theorem DrawStains_any (l : List Int) (A : Option Addr) (c : Nat) (w : World) (hl : l.length ≤ 1048576) (hr : RB w A l) :
    Calls Tryd.prog 9 #[.slice A l.length c] w fun e w' => ∃ a b d x y z, e = .returned (.tuple #[.agg #[.int .i64 a, .int .i64 b, .int .i64 d], .agg #[.int .i64 x, .int .i64 y, .int .i64 z]]) ∧ (0 ≤ a ∧ a ≤ 1000 ∧ 0 ≤ b ∧ b ≤ 1000 ∧ 0 ≤ d ∧ d ≤ 1000) ∧ (0 ≤ x ∧ x ≤ 1000 ∧ 0 ≤ y ∧ y ≤ 1000 ∧ 0 ≤ z ∧ z ≤ 1000) ∧ Ext w w' := by
  have HR := hide hr
  clear hr
  
  go_enter Tryd.func9, Tryd.ntmps9
  go_wp2_with fail
  obtain ⟨w0, hw⟩ : ∃ w1, w1 = ((w.alloc (Obj.cells #[Value.int IntKind.i64 0, Value.int IntKind.i64 0, Value.int IntKind.i64 0] 25)).alloc (Obj.cells #[Value.int IntKind.i64 0, Value.int IntKind.i64 0, Value.int IntKind.i64 0] 25)) := ⟨_, rfl⟩; rw [← hw]; have kT : Tr [(w.heap.size, [.int .i64 0, .int .i64 0, .int .i64 0]), (w.heap.size + 1, [.int .i64 0, .int .i64 0, .int .i64 0])] w w0 := (by rw [hw]; exact ⟨by (first | (simp [Bx, CellsAt, go_sem, *]; done) | (simp [Bx, CellsAt, go_sem, *]; omega)), by (repeat (first | exact kE | exact Ext.refl _ | apply Ext.alloc | apply Ext.drewN | apply Ext.drew | apply Ext.set0 | apply Ext.set1 | apply Ext.set2 | apply Ext.set3 | (refine Ext.setk ?_ (by omega) _) | (apply Ext.snoc; assumption)))⟩); have HT := hide kT; clear hw kT; have kT := HT.out; simp only [Tr, Bx, CellsAt, Nat.reduceAdd, Nat.zero_add, and_true] at kT; obtain ⟨⟨⟨kz0, kf0, kc0_0, kc0_1, kc0_2⟩, ⟨kz1, kf1, kc1_0, kc1_1, kc1_2⟩⟩, kE⟩ := kT
  have hz0 : w.heap.size + 1 + 1 ≤ w0.heap.size := by omega
  refine (l01New_any l A c _ hl (HR.out.ext kE)).mono ?_; rintro e w1 ⟨g, rfl, hgz, hcur, hb⟩; have HT := hide (HT.out.ext hb); have Hw1 := hide hb; clear hb; clear kz0 kf0 kc0_0 kc0_1 kc0_2 kz1 kf1 kc1_0 kc1_1 kc1_2 kE; have kT := HT.out; simp only [Tr, Bx, CellsAt, Nat.reduceAdd, Nat.zero_add, and_true] at kT; obtain ⟨⟨⟨kz0, kf0, kc0_0, kc0_1, kc0_2⟩, ⟨kz1, kf1, kc1_0, kc1_1, kc1_2⟩⟩, kE⟩ := kT
  have hgl := hcur.lt
  have HC1 := hide hcur
  clear hcur
  go_wp2_with fail
  have n0 : w.heap.size ≠ g := by omega
  have n1 : w.heap.size + 1 ≠ g := by omega
  refine (l23Stain_any g l _ hl HC1.out).mono ?_; rintro e w2 ⟨a, b, d, rfl, hs, hc2, hg2⟩
  have HC2 := hide hc2
  have zg := hg2.size
  have HT := hide (HT.out.grownA hg2 (fun k hk => by (injection hk with hk; omega)) (by (simp [Ap]; try omega))); clear kz0 kf0 kc0_0 kc0_1 kc0_2 kz1 kf1 kc1_0 kc1_1 kc1_2 kE; have kT := HT.out; simp only [Tr, Bx, CellsAt, Nat.reduceAdd, Nat.zero_add, and_true] at kT; obtain ⟨⟨⟨kz0, kf0, kc0_0, kc0_1, kc0_2⟩, ⟨kz1, kf1, kc1_0, kc1_1, kc1_2⟩⟩, kE⟩ := kT
  have hg2z : g < w2.heap.size := by omega
  clear hc2 hg2
  go_wp2_with fail
  obtain ⟨w3, hw⟩ : ∃ w1, w1 = w2.alloc (Obj.cells #[Value.int IntKind.i64 a, Value.int IntKind.i64 b, Value.int IntKind.i64 d] 25) := ⟨_, rfl⟩; rw [← hw]; have Hw3 := hide (show Ext w2 w3 from (by (rw [hw]; (try clear kE); repeat (first | exact kE | exact Ext.refl _ | apply Ext.alloc | apply Ext.drewN | apply Ext.drew | apply Ext.set0 | apply Ext.set1 | apply Ext.set2 | apply Ext.set3 | (refine Ext.setk ?_ (by omega) _) | (apply Ext.snoc; assumption))))); have HT := hide (HT.out.more Hw3.out (w2.heap.size) [.int .i64 a, .int .i64 b, .int .i64 d] (by (rw [hw]; first | (simp [CellsAt, go_sem, *]; done) | (simp [CellsAt, go_sem, *]; omega)))); have Zw3 := hide (congrArg (fun z : World => z.heap.size) hw); clear hw kz0 kf0 kc0_0 kc0_1 kc0_2 kz1 kf1 kc1_0 kc1_1 kc1_2 kE; have kT := HT.out; simp only [Tr, Bx, CellsAt, Nat.reduceAdd, Nat.zero_add, and_true] at kT; obtain ⟨⟨⟨kz0, kf0, kc0_0, kc0_1, kc0_2⟩, ⟨kz1, kf1, kc1_0, kc1_1, kc1_2⟩, ⟨kz2, kf2, kc2_0, kc2_1, kc2_2⟩⟩, kE⟩ := kT
  have HC3 := hide (HC2.out.ext Hw3.out)
  have n2 : w2.heap.size ≠ g := by omega
  have hg3z : g < w3.heap.size := Nat.lt_of_lt_of_le hg2z Hw3.out.size
  go_region_with ((first | (go_at_call 19; refine (l23Stain_any g l _ hl (by first | exact HC3.out | exact HC3.out.ext (Ext.refl _).drew)).mono ?_; rintro e w5 ⟨x, y, z, rfl, ht, hc5, hg5⟩; have HT := hide (show Tr [(w2.heap.size, [.int .i64 a, .int .i64 b, .int .i64 d]), (w.heap.size, [.int .i64 0, .int .i64 0, .int .i64 0]), (w.heap.size + 1, [.int .i64 0, .int .i64 0, .int .i64 0])] w w5 from (by first | exact HT.out.grownA hg5 (fun k hk => by (injection hk with hk; omega)) (by (simp [Ap]; try omega)) | exact HT.out.drew.grownA hg5 (fun k hk => by (injection hk with hk; omega)) (by (simp [Ap]; try omega)))); (try clear kz0 kf0 kc0_0 kc0_1 kc0_2 kz1 kf1 kc1_0 kc1_1 kc1_2 kz2 kf2 kc2_0 kc2_1 kc2_2 kE); have kT := HT.out; simp only [Tr, Bx, CellsAt, Nat.reduceAdd, Nat.zero_add, and_true] at kT; obtain ⟨⟨⟨kz0, kf0, kc0_0, kc0_1, kc0_2⟩, ⟨kz1, kf1, kc1_0, kc1_1, kc1_2⟩, ⟨kz2, kf2, kc2_0, kc2_1, kc2_2⟩⟩, kE⟩ := kT; clear hc5 hg5)))
  all_goals
    go_wp2
    have E7 := (((((kE.setk (k := w.heap.size) (o := 0) (s := none) (Nat.le_refl _) (.int .i64 a)).setk (k := w.heap.size) (o := 1) (s := none) (Nat.le_refl _) (.int .i64 b)).setk (k := w.heap.size) (o := 2) (s := none) (Nat.le_refl _) (.int .i64 d)).setk (k := w.heap.size + 1) (o := 0) (s := none) (Nat.le_succ _) (.int .i64 x)).setk (k := w.heap.size + 1) (o := 1) (s := none) (Nat.le_succ _) (.int .i64 y)).setk (k := w.heap.size + 1) (o := 2) (s := none) (Nat.le_succ _) (.int .i64 z)
    obtain ⟨h0, h1, h2, h3, h4, h5⟩ := six_cells (w := w5) (g := w.heap.size) (a := .int .i64 a) (b := .int .i64 b) (d := .int .i64 d) (x := .int .i64 x) (y := .int .i64 y) (z := .int .i64 z) (by assumption) (by assumption) (by assumption) (by assumption) (by assumption) (by assumption)
    obtain ⟨w7, hw7⟩ : ∃ w7, w7 = (((((w5.setCell ⟨w.heap.size, 0, none⟩ (.int .i64 a)).setCell ⟨w.heap.size, 1, none⟩ (.int .i64 b)).setCell ⟨w.heap.size, 2, none⟩ (.int .i64 d)).setCell ⟨w.heap.size + 1, 0, none⟩ (.int .i64 x)).setCell ⟨w.heap.size + 1, 1, none⟩ (.int .i64 y)).setCell ⟨w.heap.size + 1, 2, none⟩ (.int .i64 z) := ⟨_, rfl⟩
    rw [← hw7] at E7 h0 h1 h2 h3 h4 h5 ⊢
    have HE7 := hide E7
    clear kz0 kf0 kc0_0 kc0_1 kc0_2 kz1 kf1 kc1_0 kc1_1 kc1_2 kz2 kf2 kc2_0 kc2_1 kc2_2 kE
    clear hw7 E7
    refine bodyPost_ret (v := .tuple #[.agg #[.int .i64 a, .int .i64 b, .int .i64 d], .agg #[.int .i64 x, .int .i64 y, .int .i64 z]]) (by simp only [results, Tryd.results9]; go_simp) rfl ⟨a, b, d, x, y, z, rfl, hs, ht, HE7.out⟩
end Go.Proofs.YtlpononcpocmoaaDoor
