/- The walk of impl.matched: the greatest number of shapes that find places. No condition but that the lists are not too long. -/
import Derived.Test.YtabgcpoaepafjaaGreatMatchC
set_option linter.unusedSimpArgs false
set_option linter.unusedVariables false
namespace Go.Proofs.YtabgcpoaepafjaaGreat
open Go.RowKit Go.Maps

theorem Tried.le {P : Nat → List Nat} {U j : Nat} {H : Nat → Option Nat} {n : Nat} (h : Tried P U j H n) : n ≤ j := by
  obtain ⟨L, l1, l2, l3⟩ := h.count
  have := nodup_le L (List.range j) l1 fun l hl => List.mem_range.2 (h.low l ((l3 l).1 hl))
  rw [List.length_range] at this
  omega
theorem heap_new (W : World) (o : Obj) : (W.alloc o).heap[W.heap.size]? = some o := by
  show (W.heap.push o)[W.heap.size]? = some o
  simp
set_option maxRecDepth 20000 in
theorem MW.start (w : World) (A : Option Addr) (c m U : Nat) (T : TypeId) : MW w ((((((w.alloc (.cells #[.slice A m c] 46)).alloc (.cells #[.int .i64 (U : Int)] 3)).alloc (.map #[] 0)).alloc (.cells #[.map (some (w.heap.size + 2))] 105)).alloc (.cells #[.int .i64 0] 3)).alloc (.cells #[.func (.func 86) #[] #[.pointer (some ⟨w.heap.size, 0, none⟩), .pointer (some ⟨w.heap.size + 4, 0, none⟩), .pointer (some ⟨w.heap.size + 1, 0, none⟩), .pointer (some ⟨w.heap.size + 3, 0, none⟩), .pointer (some ⟨w.heap.size + 5, 0, none⟩)]] T)) A c m U 0 (fun _ => none) 0 where
  ext := by repeat (first | exact kE | exact Ext.refl _ | apply Ext.alloc | apply Ext.drewN | apply Ext.drew | apply Ext.set0 | apply Ext.set1 | apply Ext.set2 | apply Ext.set3 | (refine Ext.setk ?_ (by omega) _) | (apply Ext.snoc; assumption))
  c0 := by
    have hE : ∀ o1 o2 o3 o4 o5, Ext (w.alloc (.cells #[.slice A m c] 46)) ((((((w.alloc (.cells #[.slice A m c] 46)).alloc o1).alloc o2).alloc o3).alloc o4).alloc o5) := fun o1 o2 o3 o4 o5 => by repeat (first | exact kE | exact Ext.refl _ | apply Ext.alloc | apply Ext.drewN | apply Ext.drew | apply Ext.set0 | apply Ext.set1 | apply Ext.set2 | apply Ext.set3 | (refine Ext.setk ?_ (by omega) _) | (apply Ext.snoc; assumption))
    exact ((hE _ _ _ _ _).facts.1 w.heap.size 0 (by simp)).trans (by rw [World.cell?_alloc_new]; rfl)
  c1 := by simp [go_sem]
  c3 := by simp [go_sem]
  c4 := by
    obtain ⟨W4, h4⟩ : ∃ W4, W4 = (((w.alloc (.cells #[.slice A m c] 46)).alloc (.cells #[.int .i64 (U : Int)] 3)).alloc (.map #[] 0)).alloc (.cells #[.map (some (w.heap.size + 2))] 105) := ⟨_, rfl⟩
    have e : w.heap.size + 4 = W4.heap.size := by rw [h4]; simp
    rw [← h4, e]
    exact (((Ext.refl (W4.alloc (.cells #[.int .i64 0] 3))).alloc _).block W4.heap.size (by simp)).trans (heap_new W4 _)
  c5 := by simp [go_sem]
  lt := by simp
  mp := by
    obtain ⟨W2, h2⟩ : ∃ W2, W2 = (w.alloc (.cells #[.slice A m c] 46)).alloc (.cells #[.int .i64 (U : Int)] 3) := ⟨_, rfl⟩
    have e : w.heap.size + 2 = W2.heap.size := by rw [h2]; simp
    rw [← h2, e]
    have hE : ∀ o1 o2 o3, Ext (W2.alloc (.map #[] 0)) ((((W2.alloc (.map #[] 0)).alloc o1).alloc o2).alloc o3) := fun o1 o2 o3 => by repeat (first | exact kE | exact Ext.refl _ | apply Ext.alloc | apply Ext.drewN | apply Ext.drew | apply Ext.set0 | apply Ext.set1 | apply Ext.set2 | apply Ext.set3 | (refine Ext.setk ?_ (by omega) _) | (apply Ext.snoc; assumption))
    exact (MapH.made W2).kept (row := none) ⟨(hE _ _ _).os, (hE _ _ _).tape, (hE _ _ _).output, (hE _ _ _).size, fun k hk _ => (hE _ _ _).block k hk⟩ (by simp)
  ask := by decide
theorem una_zero : una 0 ≤ 40 := una_le 0
set_option maxRecDepth 20000 in
set_option maxHeartbeats 16000000 in
theorem matched_any (P : List (List Nat)) (A : Option Addr) (c m U : Nat) (used : List Nat) (w : World) (hm : P.length = m) (h8 : m ≤ 8) (h40 : ∀ r ∈ P, r.length ≤ 40) (hlt : ∀ r ∈ P, ∀ p ∈ r, p < 40) (hU : U < 2 ^ 40) (hu : Bits U used) (hr : RNN w A P) :
    Calls Tryz.prog 46 #[.slice A m c, .int .i64 (U : Int)] w fun e w' => e = .returned (.int .i64 (bestM P used : Nat)) ∧ Ext w w' := by
  have HM1 := hide (fun (i a n : Nat) (H : Nat → Option Nat) (W : World) => matched1_any P A c m U w hm h8 h40 hlt hU hr 40 i a n H W)
  have HB := hide (fun (H : Nat → Option Nat) (n : Nat) (h : Tried (fun k => P.getD k []) U m H n) => Tried.best hu (P := P) (by rw [hm]; exact h))
  clear h40 hlt hu hr hm
  have hmm := @run_makeMap Tryz.prog
  have hsf : ∀ (a : Addr) (fn : Fn) (x y : Array Value) (w : World) (m : Mode), (store a (.func fn x y) m).run Tryz.prog w = stored Tryz.prog w a (.func fn x y) m := fun _ _ _ _ _ _ => run_store _ _ _ _ _ rfl
  go_enter Tryz.func46, Tryz.ntmps46
  go_wp2_with fail
  simp only [Nat.add_assoc, Nat.reduceAdd]
  obtain ⟨w5, hw5⟩ : ∃ w5, w5 = ((((((w.alloc (.cells #[.slice A m c] 46)).alloc (.cells #[.int .i64 (U : Int)] 3)).alloc (.map #[] 0)).alloc (.cells #[.map (some (w.heap.size + 2))] 105)).alloc (.cells #[.int .i64 0] 3)).alloc (.cells #[.func (.func 86) #[] #[.pointer (some ⟨w.heap.size, 0, none⟩), .pointer (some ⟨w.heap.size + 4, 0, none⟩), .pointer (some ⟨w.heap.size + 1, 0, none⟩), .pointer (some ⟨w.heap.size + 3, 0, none⟩), .pointer (some ⟨w.heap.size + 5, 0, none⟩)]] 106)) := ⟨_, rfl⟩
  have HW0 := hide (show MW w w5 A c m U 0 (fun _ => none) 0 from hw5 ▸ MW.start w A c m U _)
  rw [← hw5]
  clear hw5 hmm hsf
  go_loopw [8, 14] (fun v i wr => ∃ (j n a nn : Nat) (H : Nat → Option Nat), j ≤ m ∧ i = .int .i64 j ∧ v = .int .i64 n ∧ Hid (Tried (fun k => P.getD k []) U j H n) ∧ Hid (MW w wr A c m U a H nn) ∧ Hid (nn ≤ 40 * j) ∧ Hid (∀ f o, H f = some o → o < m)) (fun _ i _ => m - (intOf i).toNat)
  case atStart => exact ⟨0, 0, 0, 0, _, Nat.zero_le _, rfl, rfl, hide (Tried.start _ _), HW0, hide (Nat.zero_le _), hide (fun _ _ h => by cases h)⟩
  case round =>
    clear HW0
    obtain ⟨j, n, a, nn, H, hj, rfl, rfl, HT, HW, HN, HH⟩ := hrel
    have hnj := HT.out.le
    by_cases hlt : j < m
    · have hjz : (j : Int) < (m : Int) := by omega
      have hc4 := cell_of_one HW.out.c4
      have hfr4 := free_of_one HW.out.c4
      have hw0 : MW w (wr.setCell ⟨w.heap.size + 4, 0, none⟩ (.int .i64 0)) A c m U 0 H nn := HW.out.store (a' := 0) (by decide)
      have HW5 := hide hw0
      have hc5 := hw0.c5
      have hn1 := HN.out
      have hu0 := una_zero
      clear hw0
      go_wp2_with fail
      refine (HM1.out j 0 nn H _ hu0 hlt (by omega) HH.out HW5.out).mono ?_
      rintro e w7 ⟨ok, H', a', n', rfl, hG, hW, ⟨hN, _⟩, hH'⟩
      have HT2 := hide (HT.out.step hG)
      have HW7 := hide hW
      have HH7 := hide hH'
      have HN7 := hide (show n' ≤ 40 * (j + 1) by omega)
      clear hG hW hH' hN HW5 hc4 hfr4 hc5 HT
      cases ok with
      | true =>
        go_wp2_with fail
        go_roundw
        case rel => exact ⟨j + 1, n + 1, a', n', H', by omega, by go_num, by go_num, HT2, HW7, HN7, HH7⟩
        case measure => simp [intOf]; omega
      | false =>
        go_wp2_with fail
        go_roundw
        case rel => exact ⟨j + 1, n, a', n', H', by omega, by go_num, rfl, HT2, HW7, HN7, HH7⟩
        case measure => simp [intOf]; omega
    · obtain rfl : j = m := by omega
      have HB2 := hide (HB.out H n HT.out)
      go_wp2_with fail
      go_ret
      exact ⟨by rw [HB2.out]; rfl, HW.out.ext⟩
end Go.Proofs.YtabgcpoaepafjaaGreat
