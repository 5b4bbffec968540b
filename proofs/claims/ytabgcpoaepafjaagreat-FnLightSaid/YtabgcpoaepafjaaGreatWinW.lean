/- The walks of the reference's shapes of windows. No condition. -/
import Derived.Test.YtabgcpoaepafjaaGreatWinP
import Derived.Test.YtabgcpoaepafjaaGreatDraw
set_option linter.unusedSimpArgs false
set_option linter.unusedVariables false
namespace Go.Proofs.YtabgcpoaepafjaaGreat
open Go.RowKit

theorem nodeI_info : (Tryz.prog.info? 84).map (fun i => (i.zero, i.size, i.bytes)) = some (some (.agg #[.int .i64 0, .int .i64 0]), 2, 16) := by kernel_rfl
theorem leadI_info : (Tryz.prog.info? 110).map (fun i => (i.zero, i.size, i.bytes)) = some (some (.agg #[.int .i64 0, .int .i64 0]), 2, 16) := by kernel_rfl
/-- A window of the call's own: nodes and leads in rows of their own, in blocks from base on. -/
structure WO (w : World) (base : Nat) (N E : List P2) (A B : Option Addr) (c c' : Nat) : Prop where
  nodes : w.ownsRow base 84 2 (.slice A N.length c) N.length (enc2 N)
  leads : w.ownsRow base 110 2 (.slice B E.length c') E.length (enc2 E)
  apart : ∀ k, (Value.slice A N.length c).ownBlock = some k → (Value.slice B E.length c').ownBlock ≠ some k
section
variable {w w' : World} {base : Nat} {N E : List P2} {A B : Option Addr} {c c' : Nat}
theorem WO.mono {b : Nat} (h : WO w base N E A B c c') (hb : b ≤ base) : WO w b N E A B c c' := ⟨own_mono h.nodes hb, own_mono h.leads hb, h.apart⟩
theorem WO.ext (h : WO w base N E A B c c') (hE : Ext w w') : WO w' base N E A B c c' := ⟨own_ext h.nodes hE, own_ext h.leads hE, h.apart⟩
theorem WO.grown {g : Nat} (h : WO w base N E A B c c') (hg : w.grownBy w' (some g)) (hb : g < base) : WO w' base N E A B c c' :=
  ⟨h.nodes.kept hg (.inr fun e => by have := (h.nodes.lt g e).1; omega), h.leads.kept hg (.inr fun e => by have := (h.leads.lt g e).1; omega), h.apart⟩
theorem WO.setk {k o : Nat} {v : Value} (h : WO w base N E A B c c') (hb : k < base) : WO (w.setCell ⟨k, o, none⟩ v) base N E A B c c' :=
  h.grown (g := k) ⟨rfl, rfl, rfl, by simp, fun q _ hk => Below.heap_setCell _ _ _ _ (fun e => hk (by rw [e]))⟩ hb
theorem WO.wr (h : WO w base N E A B c c') (hN : N.length ≤ 1048576) (hE : E.length ≤ 1048576) : WR w N E A B c c' := by
  obtain ⟨_, _, e1, h1, _⟩ := own_slice h.nodes
  obtain ⟨_, _, e2, h2, _⟩ := own_slice h.leads
  injection e1 with _ _ e1
  injection e2 with _ _ e2
  exact ⟨hN, hE, by omega, by omega, Rds.of_own h.nodes, Rds.of_own h.leads⟩
theorem WO_two (W : World) (N E : List P2) {base : Nat} (hb : base ≤ W.heap.size) (hN : N.length ≤ 1000) (hE : E.length ≤ 1000) :
    WO ((W.alloc (.cells (enc2 N).toArray 84)).alloc (.cells (enc2 E).toArray 110)) base N E (some ⟨W.heap.size, 0, none⟩) (some ⟨W.heap.size + 1, 0, none⟩) N.length E.length := by
  have h1 := World.ownsRow_lit (base := base) (e := 84) (size := 2) W (enc2 N).toArray N.length hb (by unfold maxLen; omega) (by simp [enc2_length])
  have h2 := World.ownsRow_lit (base := base) (e := 110) (size := 2) (W.alloc (.cells (enc2 N).toArray 84)) (enc2 E).toArray E.length (by simp; omega) (by unfold maxLen; omega) (by simp [enc2_length])
  refine ⟨own_ext (by simpa using h1) ((Ext.refl _).alloc _), by simpa using h2, fun k e e2 => ?_⟩
  simp [Value.ownBlock] at e e2
  omega
end
set_option maxRecDepth 20000 in
set_option maxHeartbeats 4000000 in
theorem SampleWindow_any (w : World) : Calls Tryz.prog 130 #[] w fun e w' => ∃ A B c c', e = .returned (.agg #[.slice A (shN 0).length c, .slice B (shE 0).length c']) ∧ WO w' w.heap.size (shN 0) (shE 0) A B c c' ∧ Ext w w' := by
  
  go_enter Tryz.func130, Tryz.ntmps130
  go_wp2_with fail
  refine bodyPost_ret (v := .agg #[.slice (some ⟨w.heap.size + 1, 0, none⟩) 5 5, .slice (some ⟨w.heap.size + 1 + 1, 0, none⟩) 8 8]) (by simp only [results, Tryz.results130]; go_simp) rfl ⟨_, _, 5, 8, rfl, ?_, by repeat (first | exact kE | exact Ext.refl _ | apply Ext.alloc | apply Ext.drewN | apply Ext.drew | apply Ext.set0 | apply Ext.set1 | apply Ext.set2 | apply Ext.set3 | (refine Ext.setk ?_ (by omega) _) | (apply Ext.snoc; assumption))⟩
  have h := WO_two (base := w.heap.size) (w.alloc (Obj.cells #[Value.slice (some ⟨w.heap.size + 1, 0, none⟩) 5 5, Value.slice (some ⟨w.heap.size + 1 + 1, 0, none⟩) 8 8] 27)) (shN 0) (shE 0) (by simp) (by decide) (by decide)
  simp only [World.size_alloc] at h
  exact h
set_option maxRecDepth 20000 in
set_option maxHeartbeats 4000000 in
theorem l04Shape_0 (w : World) : Calls Tryz.prog 113 #[.int .i64 0] w fun e w' => ∃ A B c c', e = .returned (.agg #[.slice A (shN 0).length c, .slice B (shE 0).length c']) ∧ WO w' w.heap.size (shN 0) (shE 0) A B c c' ∧ Ext w w' := by
  
  go_enter Tryz.func113, Tryz.ntmps113
  go_wp2_with fail
  obtain ⟨w0, hw⟩ : ∃ w1, w1 = w.alloc (Obj.cells #[Value.slice none 0 0, Value.slice none 0 0] 27) := ⟨_, rfl⟩; rw [← hw]; have kT : Tr [(w.heap.size, [.slice none 0 0, .slice none 0 0])] w w0 := (by rw [hw]; exact ⟨by (first | (simp [Bx, CellsAt, go_sem, *]; done) | (simp [Bx, CellsAt, go_sem, *]; omega)), by (repeat (first | exact kE | exact Ext.refl _ | apply Ext.alloc | apply Ext.drewN | apply Ext.drew | apply Ext.set0 | apply Ext.set1 | apply Ext.set2 | apply Ext.set3 | (refine Ext.setk ?_ (by omega) _) | (apply Ext.snoc; assumption)))⟩); have HT := hide kT; clear hw kT; have kT := HT.out; simp only [Tr, Bx, CellsAt, Nat.reduceAdd, Nat.zero_add, and_true] at kT; obtain ⟨⟨kz0, kf0, kc0_0, kc0_1⟩, kE⟩ := kT
  have HZ := hide kz0
  refine (SampleWindow_any w0).mono ?_
  rintro e w1 ⟨A, B, c, c', rfl, ho, hb⟩
  have HO := hide ho
  have HT' := hide (HT.out.ext hb)
  clear ho hb HT
  have HT := HT'
  clear HT'
  clear kz0 kf0 kc0_0 kc0_1 kE
  have kT := HT.out; simp only [Tr, Bx, CellsAt, Nat.reduceAdd, Nat.zero_add, and_true] at kT; obtain ⟨⟨kz0, kf0, kc0_0, kc0_1⟩, kE⟩ := kT
  go_wp2_with fail
  refine bodyPost_ret (v := .agg #[.slice A (shN 0).length c, .slice B (shE 0).length c']) (by simp only [results, Tryz.results113]; go_simp) rfl ⟨_, _, _, _, rfl, ((HO.out.setk HZ.out).setk HZ.out).mono (Nat.le_of_lt HZ.out), ?_⟩
  exact (kE.setk (Nat.le_refl _) _).setk (Nat.le_refl _) _
set_option maxRecDepth 20000 in
set_option maxHeartbeats 4000000 in
theorem l04Shape_1 (w : World) : Calls Tryz.prog 113 #[.int .i64 1] w fun e w' => ∃ A B c c', e = .returned (.agg #[.slice A (shN 1).length c, .slice B (shE 1).length c']) ∧ WO w' w.heap.size (shN 1) (shE 1) A B c c' ∧ Ext w w' := by
  
  go_enter Tryz.func113, Tryz.ntmps113
  go_wp2_with fail
  refine bodyPost_ret (v := .agg #[.slice (some ⟨w.heap.size + 1, 0, none⟩) 6 6, .slice (some ⟨w.heap.size + 1 + 1, 0, none⟩) 7 7]) (by simp only [results, Tryz.results113]; go_simp) rfl ⟨_, _, 6, 7, rfl, ?_, by repeat (first | exact kE | exact Ext.refl _ | apply Ext.alloc | apply Ext.drewN | apply Ext.drew | apply Ext.set0 | apply Ext.set1 | apply Ext.set2 | apply Ext.set3 | (refine Ext.setk ?_ (by omega) _) | (apply Ext.snoc; assumption))⟩
  have h := WO_two (base := w.heap.size) (w.alloc (Obj.cells #[Value.slice (some ⟨w.heap.size + 1, 0, none⟩) 6 6, Value.slice (some ⟨w.heap.size + 1 + 1, 0, none⟩) 7 7] 27)) (shN 1) (shE 1) (by simp) (by decide) (by decide)
  simp only [World.size_alloc] at h
  exact h
set_option maxRecDepth 20000 in
set_option maxHeartbeats 4000000 in
theorem l04Shape_2 (w : World) : Calls Tryz.prog 113 #[.int .i64 2] w fun e w' => ∃ A B c c', e = .returned (.agg #[.slice A (shN 2).length c, .slice B (shE 2).length c']) ∧ WO w' w.heap.size (shN 2) (shE 2) A B c c' ∧ Ext w w' := by
  
  go_enter Tryz.func113, Tryz.ntmps113
  go_wp2_with fail
  refine bodyPost_ret (v := .agg #[.slice (some ⟨w.heap.size + 1, 0, none⟩) 12 12, .slice (some ⟨w.heap.size + 1 + 1, 0, none⟩) 17 17]) (by simp only [results, Tryz.results113]; go_simp) rfl ⟨_, _, 12, 17, rfl, ?_, by repeat (first | exact kE | exact Ext.refl _ | apply Ext.alloc | apply Ext.drewN | apply Ext.drew | apply Ext.set0 | apply Ext.set1 | apply Ext.set2 | apply Ext.set3 | (refine Ext.setk ?_ (by omega) _) | (apply Ext.snoc; assumption))⟩
  have h := WO_two (base := w.heap.size) (w.alloc (Obj.cells #[Value.slice (some ⟨w.heap.size + 1, 0, none⟩) 12 12, Value.slice (some ⟨w.heap.size + 1 + 1, 0, none⟩) 17 17] 27)) (shN 2) (shE 2) (by simp) (by decide) (by decide)
  simp only [World.size_alloc] at h
  exact h
set_option maxRecDepth 20000 in
set_option maxHeartbeats 4000000 in
theorem l04Shape_3 (w : World) : Calls Tryz.prog 113 #[.int .i64 3] w fun e w' => ∃ A B c c', e = .returned (.agg #[.slice A (shN 3).length c, .slice B (shE 3).length c']) ∧ WO w' w.heap.size (shN 3) (shE 3) A B c c' ∧ Ext w w' := by
  
  go_enter Tryz.func113, Tryz.ntmps113
  go_wp2_with fail
  refine bodyPost_ret (v := .agg #[.slice (some ⟨w.heap.size + 1, 0, none⟩) 6 6, .slice (some ⟨w.heap.size + 1 + 1, 0, none⟩) 10 10]) (by simp only [results, Tryz.results113]; go_simp) rfl ⟨_, _, 6, 10, rfl, ?_, by repeat (first | exact kE | exact Ext.refl _ | apply Ext.alloc | apply Ext.drewN | apply Ext.drew | apply Ext.set0 | apply Ext.set1 | apply Ext.set2 | apply Ext.set3 | (refine Ext.setk ?_ (by omega) _) | (apply Ext.snoc; assumption))⟩
  have h := WO_two (base := w.heap.size) (w.alloc (Obj.cells #[Value.slice (some ⟨w.heap.size + 1, 0, none⟩) 6 6, Value.slice (some ⟨w.heap.size + 1 + 1, 0, none⟩) 10 10] 27)) (shN 3) (shE 3) (by simp) (by decide) (by decide)
  simp only [World.size_alloc] at h
  exact h
set_option maxRecDepth 20000 in
set_option maxHeartbeats 4000000 in
theorem l04Shape_4 (w : World) : Calls Tryz.prog 113 #[.int .i64 4] w fun e w' => ∃ A B c c', e = .returned (.agg #[.slice A (shN 4).length c, .slice B (shE 4).length c']) ∧ WO w' w.heap.size (shN 4) (shE 4) A B c c' ∧ Ext w w' := by
  
  go_enter Tryz.func113, Tryz.ntmps113
  go_wp2_with fail
  refine bodyPost_ret (v := .agg #[.slice (some ⟨w.heap.size + 1, 0, none⟩) 8 8, .slice (some ⟨w.heap.size + 1 + 1, 0, none⟩) 8 8]) (by simp only [results, Tryz.results113]; go_simp) rfl ⟨_, _, 8, 8, rfl, ?_, by repeat (first | exact kE | exact Ext.refl _ | apply Ext.alloc | apply Ext.drewN | apply Ext.drew | apply Ext.set0 | apply Ext.set1 | apply Ext.set2 | apply Ext.set3 | (refine Ext.setk ?_ (by omega) _) | (apply Ext.snoc; assumption))⟩
  have h := WO_two (base := w.heap.size) (w.alloc (Obj.cells #[Value.slice (some ⟨w.heap.size + 1, 0, none⟩) 8 8, Value.slice (some ⟨w.heap.size + 1 + 1, 0, none⟩) 8 8] 27)) (shN 4) (shE 4) (by simp) (by decide) (by decide)
  simp only [World.size_alloc] at h
  exact h
theorem l04Shape_any (k : Nat) (hk : k < 5) (w : World) : Calls Tryz.prog 113 #[.int .i64 (k : Int)] w fun e w' => ∃ A B c c', e = .returned (.agg #[.slice A (shN k).length c, .slice B (shE k).length c']) ∧ WO w' w.heap.size (shN k) (shE k) A B c c' ∧ Ext w w' := by
  match k, hk with
  | 0, _ => exact l04Shape_0 w
  | 1, _ => exact l04Shape_1 w
  | 2, _ => exact l04Shape_2 w
  | 3, _ => exact l04Shape_3 w
  | 4, _ => exact l04Shape_4 w
end Go.Proofs.YtabgcpoaepafjaaGreat
