/- Walks of the draws of sheets. No condition but that the bytes are at most 1048576. -/
import Derived.Test.YtjibcmmnohjhkaaDraw
import Derived.Test.YtjibcmmnohjhkaaTrackG
import Derived.Deep.RegionWith
import Derived.IntWalk
set_option linter.unusedSimpArgs false
set_option linter.unusedVariables false
namespace Go.Proofs.Ytjibcmmnohjhkaa
open Go.RowKit

section
variable {w w' : World} {g : Nat}
theorem grown_cells (h : w.grownBy w' (some g)) : ∀ q o, q < w.heap.size → q ≠ g → w'.cell? ⟨q, o, none⟩ = w.cell? ⟨q, o, none⟩ := fun q o hq hn => by
  simp only [World.cell?]
  rw [h.block q hq (fun e => hn (by injection e))]
theorem grown_frz (h : w.grownBy w' (some g)) : ∀ q o, q < w.heap.size → q ≠ g → w'.frozen? ⟨q, o, none⟩ = w.frozen? ⟨q, o, none⟩ := fun q o hq hn => by
  simp only [World.frozen?]
  rw [h.block q hq (fun e => hn (by injection e))]
theorem grown_lt (h : w.grownBy w' (some g)) : ∀ q, q < w.heap.size → q < w'.heap.size := fun q hq => Nat.lt_of_lt_of_le hq h.size
theorem grown_new (h : w.grownBy w' (some g)) {k : Nat} (hk : w.heap.size ≤ k) (i : Nat) (v : Value) : w.grownBy (w'.setCell ⟨k, i, none⟩ v) (some g) :=
  ⟨h.os, h.tape, h.output, by simpa using h.size, fun q hq hn => (Below.heap_setCell _ _ _ _ (show q ≠ k by omega)).trans (h.block q hq hn)⟩
theorem grown_alloc (h : w.grownBy w' (some g)) (o : Obj) : w.grownBy (w'.alloc o) (some g) := h.trans (World.grownBy_alloc w' o _)
end
theorem l20Sheet_any (g : Nat) (l : List Int) (w : World) (hl : l.length ≤ 1048576) (hc : Cur w g l) :
    Calls Try.prog 65 #[.pointer (some ⟨g, 0, none⟩)] w fun e w' => ∃ a b, e = .returned (.agg #[.int .i64 a, .int .i64 b]) ∧ 1 ≤ a ∧ a ≤ 16 ∧ 1 ≤ b ∧ b ≤ 16 ∧ Cur w' g l ∧ w.grownBy w' (some g) := by
  have HC := hide hc
  have hgl := hc.lt
  clear hc
  go_enter Try.func65, Try.ntmps65
  go_wp2_with fail
  obtain ⟨w0, hw⟩ : ∃ w0, w0 = w.alloc (Obj.cells #[Value.int IntKind.i64 0, Value.int IntKind.i64 0] 25) := ⟨_, rfl⟩
  have c0 : ∃ v, w0.cell? ⟨w.heap.size, 0, none⟩ = some v := ⟨.int .i64 0, by rw [hw]; simp [go_sem]⟩
  have c1 : ∃ v, w0.cell? ⟨w.heap.size, 1, none⟩ = some v := ⟨.int .i64 0, by rw [hw]; simp [go_sem]⟩
  have cf : ∀ i, w0.frozen? ⟨w.heap.size, i, none⟩ = false := by intro i; rw [hw]; simp [go_sem]
  have cz : w.heap.size < w0.heap.size := by rw [hw]; simp
  have hc0 : Cur w0 g l := by rw [hw]; exact HC.out.ext ((Ext.refl _).alloc _)
  have hg0 : w.grownBy w0 (some g) := by rw [hw]; exact World.grownBy_alloc w _ _
  have hng : w.heap.size ≠ g := by omega
  obtain ⟨v0, c0⟩ := c0
  obtain ⟨v1, c1⟩ := c1
  rw [← hw]
  clear hw
  have HC0 := hide hc0
  have HG0 := hide hg0
  clear hc0 hg0
  refine (l01Below_any g 16 l _ hl (by omega) (by omega) HC0.out).mono ?_; rintro e w1 ⟨x, rfl, hx0, hx1, hc1, hg1⟩
  have kc := grown_cells hg1
  have kf := grown_frz hg1
  have kz := grown_lt hg1
  have HC1 := hide hc1
  have HG1 := hide hg1
  clear hc1 hg1
  go_wp2_with fail
  refine (l01Below_any g 16 l _ hl (by omega) (by omega) HC1.out).mono ?_; rintro e w2 ⟨y, rfl, hy0, hy1, hc2, hg2⟩
  have e0 := (grown_cells hg2 _ 0 (kz _ cz) hng).trans ((kc _ 0 cz hng).trans c0)
  have e1 := (grown_cells hg2 _ 1 (kz _ cz) hng).trans ((kc _ 1 cz hng).trans c1)
  have ef := fun i => (grown_frz hg2 _ i (kz _ cz) hng).trans ((kf _ i cz hng).trans (cf i))
  have ez := grown_lt hg2 _ (kz _ cz)
  have HC2 := hide hc2
  have HG2 := hide ((HG0.out.trans HG1.out).trans hg2)
  clear hc2 hg2 kc kf kz c0 c1 cf cz
  go_wp2_with fail
  refine bodyPost_ret (v := .agg #[.int .i64 (1 + x), .int .i64 (1 + y)]) (by simp only [results, Try.results65]; go_simp) rfl ⟨_, _, rfl, by omega, by omega, by omega, by omega, (HC2.out.setk hgl _ _).setk hgl _ _, grown_new (grown_new HG2.out (Nat.le_refl _) _ _) (Nat.le_refl _) _ _⟩
set_option maxHeartbeats 2000000 in
theorem DrawSheets_any (l : List Int) (A : Option Addr) (c : Nat) (w : World) (hl : l.length ≤ 1048576) (hr : RB w A l) :
    Calls Try.prog 43 #[.slice A l.length c] w fun e w' => ∃ a b x y, e = .returned (.tuple #[.agg #[.int .i64 a, .int .i64 b], .agg #[.int .i64 x, .int .i64 y]]) ∧ (1 ≤ a ∧ a ≤ 16 ∧ 1 ≤ b ∧ b ≤ 16) ∧ (1 ≤ x ∧ x ≤ 8 ∧ 1 ≤ y ∧ y ≤ 8) ∧ Ext w w' := by
  have HR := hide hr
  clear hr
  
  go_enter Try.func43, Try.ntmps43
  go_wp2_with fail
  obtain ⟨w0, hw⟩ : ∃ w1, w1 = ((w.alloc (Obj.cells #[Value.int IntKind.i64 0, Value.int IntKind.i64 0] 25)).alloc (Obj.cells #[Value.int IntKind.i64 0, Value.int IntKind.i64 0] 25)) := ⟨_, rfl⟩; rw [← hw]; have kT : Tr [(w.heap.size, [.int .i64 0, .int .i64 0]), (w.heap.size + 1, [.int .i64 0, .int .i64 0])] w w0 := (by rw [hw]; exact ⟨by (first | (simp [Bx, CellsAt, go_sem, *]; done) | (simp [Bx, CellsAt, go_sem, *]; omega)), by (repeat (first | exact kE | exact Ext.refl _ | apply Ext.alloc | apply Ext.drewN | apply Ext.drew | apply Ext.set0 | apply Ext.set1 | apply Ext.set2 | apply Ext.set3 | (refine Ext.setk ?_ (by omega) _) | (apply Ext.snoc; assumption)))⟩); have HT := hide kT; clear hw kT; have kT := HT.out; simp only [Tr, Bx, CellsAt, Nat.reduceAdd, Nat.zero_add, and_true] at kT; obtain ⟨⟨⟨kz0, kf0, kc0_0, kc0_1⟩, ⟨kz1, kf1, kc1_0, kc1_1⟩⟩, kE⟩ := kT
  have hz0 : w.heap.size + 1 + 1 ≤ w0.heap.size := by omega
  refine (l01New_any l A c _ hl (HR.out.ext kE)).mono ?_; rintro e w1 ⟨g, rfl, hgz, hcur, hb⟩; have HT := hide (HT.out.ext hb); have Hw1 := hide hb; clear hb; clear kz0 kf0 kc0_0 kc0_1 kz1 kf1 kc1_0 kc1_1 kE; have kT := HT.out; simp only [Tr, Bx, CellsAt, Nat.reduceAdd, Nat.zero_add, and_true] at kT; obtain ⟨⟨⟨kz0, kf0, kc0_0, kc0_1⟩, ⟨kz1, kf1, kc1_0, kc1_1⟩⟩, kE⟩ := kT
  have hgl := hcur.lt
  have HC1 := hide hcur
  clear hcur
  go_wp2_with fail
  have n0 : w.heap.size ≠ g := by omega
  have n1 : w.heap.size + 1 ≠ g := by omega
  refine (l20Sheet_any g l _ hl HC1.out).mono ?_; rintro e w2 ⟨a, b, rfl, ha1, ha2, hb1, hb2, hc2, hg2⟩
  have HC2 := hide hc2
  have HE2 := hide (Ext.grown kE hg2 (fun k hk => by injection hk with hk; omega))
  have zg := hg2.size
  have HT := hide (HT.out.grownA hg2 (fun k hk => by (injection hk with hk; omega)) (by (simp [Ap]; try omega))); clear kz0 kf0 kc0_0 kc0_1 kz1 kf1 kc1_0 kc1_1 kE; have kT := HT.out; simp only [Tr, Bx, CellsAt, Nat.reduceAdd, Nat.zero_add, and_true] at kT; obtain ⟨⟨⟨kz0, kf0, kc0_0, kc0_1⟩, ⟨kz1, kf1, kc1_0, kc1_1⟩⟩, kE⟩ := kT
  have hg2z : g < w2.heap.size := by omega
  clear hc2 hg2 HE2
  go_wp2_with fail
  obtain ⟨w3, hw⟩ : ∃ w1, w1 = w2.alloc (Obj.cells #[Value.int IntKind.i64 a, Value.int IntKind.i64 b] 25) := ⟨_, rfl⟩; rw [← hw]; have Hw3 := hide (show Ext w2 w3 from (by (rw [hw]; (try clear kE); repeat (first | exact kE | exact Ext.refl _ | apply Ext.alloc | apply Ext.drewN | apply Ext.drew | apply Ext.set0 | apply Ext.set1 | apply Ext.set2 | apply Ext.set3 | (refine Ext.setk ?_ (by omega) _) | (apply Ext.snoc; assumption))))); have HT := hide (HT.out.more Hw3.out (w2.heap.size) [.int .i64 a, .int .i64 b] (by (rw [hw]; first | (simp [CellsAt, go_sem, *]; done) | (simp [CellsAt, go_sem, *]; omega)))); clear hw kz0 kf0 kc0_0 kc0_1 kz1 kf1 kc1_0 kc1_1 kE; have kT := HT.out; simp only [Tr, Bx, CellsAt, Nat.reduceAdd, Nat.zero_add, and_true] at kT; obtain ⟨⟨⟨kz0, kf0, kc0_0, kc0_1⟩, ⟨kz1, kf1, kc1_0, kc1_1⟩, ⟨kz2, kf2, kc2_0, kc2_1⟩⟩, kE⟩ := kT
  have HC3 := hide (HC2.out.ext Hw3.out)
  have hc3 := HC3.out
  have n2 : w2.heap.size ≠ g := by omega
  have hg3z : g < w3.heap.size := Nat.lt_of_lt_of_le hg2z Hw3.out.size
  clear hc3
  go_region_with ((first | (have HC5 := HC4; go_at_call 66; refine (l01Below_any g 8 l _ hl (by omega) (by omega) (by first | exact HC4.out | exact HC4.out.ext (Ext.refl _).drew)).mono ?_; rintro e w6 ⟨x2, rfl, hy0, hy1, hc5, hg5⟩; have hwy : IntKind.i64.wrap (1 + x2) = 1 + x2 := IntWalk.i64_in _ (by omega); have HT := hide (show Tr [(w2.heap.size, [.int .i64 a, .int .i64 b]), (w.heap.size, [.int .i64 0, .int .i64 0]), (w.heap.size + 1, [.int .i64 0, .int .i64 0])] w w6 from (by first | exact HT.out.grownA hg5 (fun k hk => by (injection hk with hk; omega)) (by (simp [Ap]; try omega)) | exact HT.out.drew.grownA hg5 (fun k hk => by (injection hk with hk; omega)) (by (simp [Ap]; try omega)))); (try clear kz0 kf0 kc0_0 kc0_1 kz1 kf1 kc1_0 kc1_1 kz2 kf2 kc2_0 kc2_1 kE); have kT := HT.out; simp only [Tr, Bx, CellsAt, Nat.reduceAdd, Nat.zero_add, and_true] at kT; obtain ⟨⟨⟨kz0, kf0, kc0_0, kc0_1⟩, ⟨kz1, kf1, kc1_0, kc1_1⟩, ⟨kz2, kf2, kc2_0, kc2_1⟩⟩, kE⟩ := kT; clear hc5 hg5) | (go_at_call 66; refine (l01Below_any g 8 l _ hl (by omega) (by omega) (by first | exact HC3.out | exact HC3.out.ext (Ext.refl _).drew)).mono ?_; rintro e w5 ⟨x1, rfl, hx0, hx1, hc5, hg5⟩; have hwx : IntKind.i64.wrap (1 + x1) = 1 + x1 := IntWalk.i64_in _ (by omega); have HC4 := hide hc5; have HT := hide (show Tr [(w2.heap.size, [.int .i64 a, .int .i64 b]), (w.heap.size, [.int .i64 0, .int .i64 0]), (w.heap.size + 1, [.int .i64 0, .int .i64 0])] w w5 from (by first | exact HT.out.grownA hg5 (fun k hk => by (injection hk with hk; omega)) (by (simp [Ap]; try omega)) | exact HT.out.drew.grownA hg5 (fun k hk => by (injection hk with hk; omega)) (by (simp [Ap]; try omega)))); (try clear kz0 kf0 kc0_0 kc0_1 kz1 kf1 kc1_0 kc1_1 kz2 kf2 kc2_0 kc2_1 kE); have kT := HT.out; simp only [Tr, Bx, CellsAt, Nat.reduceAdd, Nat.zero_add, and_true] at kT; obtain ⟨⟨⟨kz0, kf0, kc0_0, kc0_1⟩, ⟨kz1, kf1, kc1_0, kc1_1⟩, ⟨kz2, kf2, kc2_0, kc2_1⟩⟩, kE⟩ := kT; clear hc5 hg5)))
  all_goals
    clear hwx hwy
    go_wp2
    refine bodyPost_ret (v := .tuple #[.agg #[.int .i64 a, .int .i64 b], .agg #[.int .i64 (1 + x1), .int .i64 (1 + x2)]]) (by simp only [results, Try.results43]; go_simp) rfl ⟨a, b, 1 + x1, 1 + x2, rfl, ⟨ha1, ha2, hb1, hb2⟩, ⟨by omega, by omega, by omega, by omega⟩, by repeat (first | exact kE | exact Ext.refl _ | apply Ext.alloc | apply Ext.drewN | apply Ext.drew | apply Ext.set0 | apply Ext.set1 | apply Ext.set2 | apply Ext.set3 | (refine Ext.setk ?_ (by omega) _) | (apply Ext.snoc; assumption))⟩
end Go.Proofs.Ytjibcmmnohjhkaa
