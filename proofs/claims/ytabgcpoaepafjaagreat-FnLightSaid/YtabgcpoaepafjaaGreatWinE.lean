/- The walk of the reference's drawn node. No condition. -/
import Derived.Test.YtabgcpoaepafjaaGreatWinD
set_option linter.unusedSimpArgs false
set_option linter.unusedVariables false
namespace Go.Proofs.YtabgcpoaepafjaaGreat
open Go.RowKit

section
variable {w w' : World} {g : Nat}
theorem grown_cells (h : w.grownBy w' (some g)) : ∀ q o, q < w.heap.size → q ≠ g → w'.cell? ⟨q, o, none⟩ = w.cell? ⟨q, o, none⟩ := fun q o hq hn => by
  simp only [World.cell?]
  rw [h.block q hq (fun e => hn (by injection e))]
theorem grown_frz (h : w.grownBy w' (some g)) : ∀ q o, q < w.heap.size → q ≠ g → w'.frozen? ⟨q, o, none⟩ = w.frozen? ⟨q, o, none⟩ := fun q o hq hn => by
  simp only [World.frozen?]
  rw [h.block q hq (fun e => hn (by injection e))]
theorem grown_lt (h : w.grownBy w' (some g)) : ∀ q, q < w.heap.size → q < w'.heap.size := fun q hq => Nat.lt_of_lt_of_le hq h.size
theorem grown_new (h : w.grownBy w' (some g)) {k : Nat} (hk : w.heap.size ≤ k) (i : Nat) (v : Value) : w.grownBy (w'.setCell ⟨k, i, none⟩ v) (some g) :=
  ⟨h.os, h.tape, h.output, by simpa using h.size, fun q hq hn => (Below.heap_setCell _ _ _ _ (show q ≠ k by omega)).trans (h.block q hq hn)⟩
theorem grown_alloc (h : w.grownBy w' (some g)) (o : Obj) : w.grownBy (w'.alloc o) (some g) := h.trans (World.grownBy_alloc w' o _)
end
set_option maxRecDepth 20000 in
set_option maxHeartbeats 1000000 in
theorem l02Node_any (g : Nat) (l : List Int) (w : World) (hl : l.length ≤ 1048576) (hc : Cur w g l) :
    Calls Tryz.prog 129 #[.pointer (some ⟨g, 0, none⟩)] w fun e w' => ∃ x y, e = .returned (.agg #[.int .i64 x, .int .i64 y]) ∧ (0 ≤ x ∧ x ≤ 12 ∧ 0 ≤ y ∧ y ≤ 12) ∧ Cur w' g l ∧ w.grownBy w' (some g) := by
  have HC := hide hc
  have hgl := hc.lt
  clear hc
  
  go_enter Tryz.func129, Tryz.ntmps129
  go_wp2_with fail
  obtain ⟨w0, hw⟩ : ∃ w0, w0 = w.alloc (Obj.cells #[Value.int IntKind.i64 0, Value.int IntKind.i64 0] 84) := ⟨_, rfl⟩
  have c0 : ∃ v, w0.cell? ⟨w.heap.size, 0, none⟩ = some v := ⟨.int .i64 0, by rw [hw]; simp [go_sem]⟩
  have c1 : ∃ v, w0.cell? ⟨w.heap.size, 1, none⟩ = some v := ⟨.int .i64 0, by rw [hw]; simp [go_sem]⟩
  have cf : ∀ i, w0.frozen? ⟨w.heap.size, i, none⟩ = false := by intro i; rw [hw]; simp [go_sem]
  have cz : w.heap.size < w0.heap.size := by rw [hw]; simp
  have hc0 : Cur w0 g l := by rw [hw]; exact HC.out.ext ((Ext.refl _).alloc _)
  have hg0 : w.grownBy w0 (some g) := by rw [hw]; exact World.grownBy_alloc w _ _
  have hng : w.heap.size ≠ g := by omega
  obtain ⟨v0, c0⟩ := c0
  obtain ⟨v1, c1⟩ := c1
  rw [← hw]
  clear hw
  have HC0 := hide hc0
  have HG0 := hide hg0
  clear hc0 hg0
  refine (l01Below_any g 13 l _ hl (by omega) (by omega) HC0.out).mono ?_; rintro e w1 ⟨x, rfl, hx0, hx1, hc1, hg1⟩
  have kc := grown_cells hg1
  have kf := grown_frz hg1
  have kz := grown_lt hg1
  have HC1 := hide hc1
  have HG1 := hide hg1
  clear hc1 hg1
  go_wp2_with fail
  refine (l01Below_any g 13 l _ hl (by omega) (by omega) HC1.out).mono ?_; rintro e w2 ⟨y, rfl, hy0, hy1, hc2, hg2⟩
  have e0 := (grown_cells hg2 _ 0 (kz _ cz) hng).trans ((kc _ 0 cz hng).trans c0)
  have e1 := (grown_cells hg2 _ 1 (kz _ cz) hng).trans ((kc _ 1 cz hng).trans c1)
  have ef := fun i => (grown_frz hg2 _ i (kz _ cz) hng).trans ((kf _ i cz hng).trans (cf i))
  have ez := grown_lt hg2 _ (kz _ cz)
  have HC2 := hide hc2
  have HG2 := hide ((HG0.out.trans HG1.out).trans hg2)
  clear hc2 hg2 kc kf kz c0 c1 cf cz
  go_wp2_with fail
  refine bodyPost_ret (v := .agg #[.int .i64 x, .int .i64 y]) (by simp only [results, Tryz.results129]; go_simp) rfl ⟨_, _, rfl, ⟨by omega, by omega, by omega, by omega⟩, (HC2.out.setk hgl _ _).setk hgl _ _, grown_new (grown_new HG2.out (Nat.le_refl _) _ _) (Nat.le_refl _) _ _⟩
end Go.Proofs.YtabgcpoaepafjaaGreat
