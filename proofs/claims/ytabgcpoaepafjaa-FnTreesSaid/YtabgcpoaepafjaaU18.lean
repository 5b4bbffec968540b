/- Words and walks for the law FnTrees, a part of them. No condition but that the arguments lie in memory. -/
import Derived.Test.YtabgcpoaepafjaaU1
import Derived.Test.YtabgcpoaepafjaaU11
import Derived.Test.YtabgcpoaepafjaaU15
import Derived.Test.YtabgcpoaepafjaaU17
set_option linter.unusedVariables false
set_option linter.unusedSimpArgs false
namespace Go.Proofs.Ytabgcpoaepafjaa
open Go.RowKit
theorem elimP_ekk {n k : Nat} {last : Int} {g : Nat → Nat → Int} : elimD n k last g k k = g k k := by
  unfold elimD
  rw [if_neg (by omega)]
theorem below_of {w w1 w2 : World} {B : Nat} (h : Below B w w1) (hE : Ext w1 w2) (hB : B ≤ w1.heap.size) : Below B w w2 := Below.trans h (Below.mono hE hB)
set_option maxRecDepth 20000 in
set_option maxHeartbeats 4000000 in
theorem determinant_any (n hd c B : Nat) (f : Nat → Nat → Int) (w : World) (hn : n ≤ 40) (hc : n ≤ c) (hs : Sml n f) (hM : Mat w B hd n n n 29 3 f) :
    Calls Try.prog 44 #[.slice (some ⟨hd, 0, none⟩) n c] w fun e w' => e = .returned (.int .i64 (detD n f)) ∧ Below B w w' := by
  have HM0 := hide hM
  have HS := hide hs
  obtain ⟨D, hD⟩ : ∃ D, detD n f = D := ⟨_, rfl⟩
  have HST := hide (fun k (hk : k < n) (h : (stD n f k).1 k k = 0) => hD.symm.trans (det_stop hk h))
  have HEN := hide (fun (h : detTo n f n ≠ 0) => (show D = (stD n f n).2 from by rw [detTo_last h, ← hD]; rfl))
  have hhd := hM.lt
  rw [hD]
  clear hM hs hD
  
  go_enter Try.func44, Try.ntmps44
  go_wp2_with fail
  go_loopw [3, 4, 11] (fun sg ls i wr => ∃ k : Nat, k ≤ n ∧ sg = .int .i64 1 ∧ i = .int .i64 k ∧ ls = .int .i64 (stD n f k).2 ∧ Hid (StD n f k) ∧ Hid (detTo n f k ≠ 0) ∧ Hid (Mat wr B hd n n n 29 3 (stD n f k).1) ∧ Hid (Below B w wr)) (fun _ _ i _ => n - (intOf i).toNat)
  case atStart => exact ⟨0, Nat.zero_le _, rfl, rfl, rfl, hide (StD.start HS.out.dom), hide (show (1 : Int) ≠ 0 by decide), HM0, hide (Below.refl _ _)⟩
  case round =>
    obtain ⟨k, hk, rfl, rfl, rfl, HK, HD0, HM, HB⟩ := hrel
    by_cases hlt : k < n
    · have hlz : (k : Int) < (n : Int) := by omega
      have HLS := hide (HS.out.last hk HK.out)
      have HEB := hide (fun i j h1 h2 h3 h4 => HS.out.entry (i := i) (j := j) hk HK.out h1 h2 h3 h4)
      have HNX := hide (fun h => HK.out.next (fun i hi => (HS.out.diag hi).1) hlt h)
      have HGO := hide (fun h => det_go (n := n) (f := f) (k := k) h HD0.out)
      have HSTK := hide (HST.out k hlt)
      have HZC := hide (fun h => HK.out.dom.zero hlt h)
      have HN1 := hide (show (stD n f (k + 1)).2 = (stD n f k).1 k k from rfl)
      have HN2 := hide (show (stD n f (k + 1)).1 = elimD n k (stD n f k).2 (stD n f k).1 from rfl)
      obtain ⟨g, hg⟩ : ∃ g, (stD n f k).1 = g := ⟨_, rfl⟩
      obtain ⟨l, hl⟩ : ∃ l, (stD n f k).2 = l := ⟨_, rfl⟩
      rw [hg] at HM HEB HNX HGO HSTK HZC HN1 HN2
      rw [hl] at HLS HN2 ⊢
      clear hg hl
      obtain ⟨g0, p1, p2, _⟩ := HM.out.at_ hlt hlt
      obtain ⟨wo, rfl⟩ : ∃ wo : World, wo = wr := ⟨_, rfl⟩
      by_cases hp : g k k = 0
      · have HV := hide (HSTK.out hp)
        have HZ := hide (HZC.out hp)
        clear hp p1 p2
        go_wp2_with fail
        go_loopw [6] (fun i wi => ∃ j : Nat, k ≤ j ∧ j ≤ n ∧ i = .int .i64 j ∧ Hid (wi = wo)) (fun i _ => n - (intOf i).toNat)
        case atStart => exact ⟨k, Nat.le_refl _, hk, rfl, hide rfl⟩
        case round =>
          obtain ⟨j, hj1, hj2, rfl, HW⟩ := hrel
          obtain rfl := HW.out
          by_cases hjl : j < n
          · have hjz : (j : Int) < (n : Int) := by omega
            obtain ⟨g1, q1, q2, _⟩ := HM.out.at_ hjl hlt
            rw [HZ.out j hj1 hjl] at q2
            go_wp2_with fail
            clear q1 q2
            go_roundw
            case rel => exact ⟨j + 1, by omega, by omega, by go_num, by first | exact hide rfl | exact hide trivial⟩
            case measure => simp [intOf]; omega
          · obtain rfl : j = n := by omega
            go_wp2_with fail
            go_ret
            exact ⟨ret_int HV.out.symm, HB.out⟩
      · have HNX2 := hide (HNX.out hp)
        have HGO2 := hide (HGO.out hp)
        have hp2 : (g k k == 0) = false := by simp [hp]
        have HP := hide hp
        clear hp
        go_wp2_with fail
        go_loopw [6] (fun i wi => i = .int .i64 k ∧ Hid (wi = wo)) (fun _ _ => 0)
        case atStart => exact ⟨rfl, hide rfl⟩
        case round =>
          obtain ⟨rfl, HW⟩ := hrel
          obtain rfl := HW.out
          go_wp2_with fail
          clear p1 p2 hp2
          have HSTP := hide (elimP_start n k l g)
          go_loopw [7] (fun i wi => ∃ a : Nat, k + 1 ≤ a ∧ a ≤ n ∧ i = .int .i64 a ∧ Hid (Mat wi B hd n n n 29 3 (elimP n k l g a (k + 1))) ∧ Hid (Below B w wi)) (fun i _ => n - (intOf i).toNat)
          case atStart => exact ⟨k + 1, Nat.le_refl _, by omega, rfl, hide (by rw [HSTP.out]; exact HM.out), HB⟩
          case round =>
            clear HM HB
            obtain ⟨a, ha1, ha2, rfl, HM, HB⟩ := hrel
            by_cases hal : a < n
            · have haz : (a : Int) < (n : Int) := by omega
              go_wp2_with fail
              go_loopw [8] (fun i wi => ∃ b : Nat, k + 1 ≤ b ∧ b ≤ n ∧ i = .int .i64 b ∧ Hid (Mat wi B hd n n n 29 3 (elimP n k l g a b)) ∧ Hid (Below B w wi)) (fun i _ => n - (intOf i).toNat)
              case atStart => exact ⟨k + 1, Nat.le_refl _, by omega, rfl, HM, HB⟩
              case round =>
                clear HM HB
                obtain ⟨b, hb1, hb2, rfl, HM, HB⟩ := hrel
                by_cases hbl : b < n
                · have hbz : (b : Int) < (n : Int) := by omega
                  obtain ⟨e1, e2, e3, e4⟩ := elimP_at (n := n) (last := l) (g := g) (i0 := a) (j0 := b) (show k < a by omega) (show k < b by omega)
                  have hnext := elimP_next (last := l) (g := g) (show k < a by omega) hal (show k < b by omega) hbl
                  obtain ⟨z1, z2, z3, z4⟩ := step_small (HEB.out a b (by omega) hal (by omega) hbl) (HEB.out k k (Nat.le_refl _) hlt (Nat.le_refl _) hlt) (HEB.out a k (by omega) hal (Nat.le_refl _) hlt) (HEB.out k b (Nat.le_refl _) hlt (by omega) hbl) HLS.out.1
                  have hl0 : l ≠ 0 := by have := HLS.out.1; omega
                  obtain ⟨g1, a1, a2, _, a4, a5, _⟩ := HM.out.at_ hal hbl
                  have HA1 := hide a1
                  have HHW := hide HM.out.lt
                  obtain ⟨g2, b1, b2, _, _, b5, _⟩ := HM.out.at_ hlt hlt
                  obtain ⟨g3, c1, c2, _⟩ := HM.out.at_ hal hlt
                  obtain ⟨g4, d1, d2, _⟩ := HM.out.at_ hlt hbl
                  have e13 : g3 = g1 := by
                    rw [a1] at c1
                    injection c1 with c1
                    injection c1 with c1
                    injection c1 with c1
                    injection c1 with c1
                    exact c1.symm
                  have e24 : g4 = g2 := by
                    rw [b1] at d1
                    injection d1 with d1
                    injection d1 with d1
                    injection d1 with d1
                    injection d1 with d1
                    exact d1.symm
                  subst e13 e24
                  rw [e1] at a2
                  rw [e2] at b2
                  rw [e3] at c2
                  rw [e4] at d2
                  clear e1 e2 e3 e4 c1 d1
                  have hhw := HM.out.lt.2
                  have k1 := ExtBy.cell (W := wr) hhw a1
                  have k2 := ExtBy.cell (W := wr) hhw b1
                  have k3 := ExtBy.cell (W := wr) a5 a2
                  have k4 := ExtBy.cell (W := wr) b5 b2
                  have k5 := ExtBy.cell (W := wr) a5 c2
                  have k6 := ExtBy.cell (W := wr) b5 d2
                  obtain ⟨A1, hA1⟩ : ∃ A1, g a b = A1 := ⟨_, rfl⟩
                  obtain ⟨A2, hA2⟩ : ∃ A2, g k k = A2 := ⟨_, rfl⟩
                  obtain ⟨A3, hA3⟩ : ∃ A3, g a k = A3 := ⟨_, rfl⟩
                  obtain ⟨A4, hA4⟩ : ∃ A4, g k b = A4 := ⟨_, rfl⟩
                  rw [hA1] at z1 z3 z4 hnext k3
                  rw [hA2] at z1 z3 z4 hnext k4
                  rw [hA3] at z2 z3 z4 hnext k5
                  rw [hA4] at z2 z3 z4 hnext k6
                  have HNE := hide hnext
                  clear hnext hA1 hA2 hA3 hA4 a1 a2 b1 b2 c2 d2
                  go_wp2_with fail
                  refine wp_region_tailE 39 (by kernel_rfl) (by kernel_rfl) ?_; simp only [List.take_succ_cons, List.take_zero, List.drop_succ_cons, List.drop_zero]; (repeat (refine WQ.step (fun K hK => ?_); have HK := hide hK; clear hK; go_simp; refine HK.out _ ?_; clear HK K)); refine WQ.done ?_; intro w6 hw'; obtain ⟨⟨_, hw6⟩, hw''⟩ := hw'; subst hw''
                  have HM6 := hide (HM.out.ext hw6)
                  have HB6 := hide (below_of HB.out hw6 (by omega))
                  clear k1 k2 k3 k4 k5 k6
                  obtain ⟨g9, f1, f2, f3, f4, f5, f6⟩ := HM6.out.at_ hal hbl
                  have e9 : g3 = g9 := by
                    have e := (Ext.facts hw6).1 hd a HHW.out.2
                    rw [f1, HA1.out] at e
                    injection e with e
                    injection e with e
                    injection e with e
                    injection e with e
                    exact e.symm
                  subst e9
                  have HM7 := hide (HNE.out ▸ f6 ((A1 * A2 - A3 * A4).tdiv l))
                  have HB7 := hide (Below.setCell HB6.out (p := ⟨g3, b, none⟩) f4 (.int .i64 ((A1 * A2 - A3 * A4).tdiv l)))
                  clear HA1 HHW f1 f6 f4 HNE HM6 HB6
                  go_wp2_with fail
                  clear f2 f3 f5 z1 z2 z3 z4
                  go_roundw
                  case rel => exact ⟨b + 1, by omega, by omega, by go_num, by first | exact HM7 | exact hide HM7.out, by first | exact HB7 | exact hide HB7.out⟩
                  case measure => simp [intOf]; omega
                · obtain rfl : b = n := by omega
                  have HM8 := hide (HM.out.congr fun i j _ hj => elimP_row (last := l) (g := g) (k := k) (i0 := a) i j hj)
                  go_wp2_with fail
                  go_roundw
                  case rel => exact ⟨a + 1, by omega, by omega, by go_num, by first | exact HM8 | exact hide HM8.out, by first | exact HB | exact hide HB.out⟩
                  case measure => simp [intOf]; omega
            · obtain rfl : a = n := by omega
              have HM8 := hide (HM.out.congr fun i j hi _ => elimP_end (last := l) (g := g) (k := k) i j hi)
              have HM9 := hide (show Mat _ B hd a a a 29 3 (stD a f (k + 1)).1 from HN2.out ▸ HM8.out)
              obtain ⟨g1, q1, q2, _⟩ := HM8.out.at_ hlt hlt
              rw [elimP_ekk] at q2
              go_wp2_with fail
              clear q1 q2
              go_roundw
              case rel => exact ⟨k + 1, by omega, by first | rfl | go_num, by go_num, by first | exact congrArg _ HN1.out.symm | (rw [HN1.out]), by first | exact HNX2 | exact hide HNX2.out, by first | exact HGO2 | exact hide HGO2.out, by first | exact HM9 | exact hide HM9.out, by first | exact HB | exact hide HB.out⟩
              case measure => simp [intOf]; omega
    · obtain rfl : k = n := by omega
      have HR := hide (HEN.out HD0.out)
      have hw1 := (HS.out.last (Nat.le_refl k) HK.out); obtain ⟨L, hL⟩ : ∃ L, (stD k f k).2 = L := ⟨_, rfl⟩; rw [hL] at hw1 HR; have hwl : IntKind.i64.wrap (1 * L) = L := (by rw [Int.one_mul, IntKind.wrap_i64] <;> omega)
      go_wp2_with fail
      go_ret
      exact ⟨ret_int (by first | exact HR.out.symm | (simp [go_sem, *]; exact HR.out.symm)), HB.out⟩
end Go.Proofs.Ytabgcpoaepafjaa
namespace Go.Proofs.Ytabgcpoaepafjaa
open Go.RowKit
/-- A row of k headers that grows, each header's row of n zeros in a block of its own. -/
def Hdr (w : World) (B : Nat) (v : Value) (k n : Nat) (Th Te : TypeId) : Prop :=
  ∃ G : Nat → Nat, w.ownsRow B Th 1 v k ((List.range k).map fun i => Value.slice (some ⟨G i, 0, none⟩) n n) ∧ (∀ i, i < k → B ≤ G i ∧ v.ownBlock ≠ some (G i) ∧ Blk w (G i) Te (List.replicate n (Value.int .i64 0))) ∧ ∀ i j, i < k → j < k → G i = G j → i = j
theorem Hdr.step {w w2 w4 : World} {B k n g : Nat} {v v' : Value} {Th Te : TypeId} {G : Nat → Nat} (h1 : w.ownsRow B Th 1 v k ((List.range k).map fun i => Value.slice (some ⟨G i, 0, none⟩) n n)) (h2 : ∀ i, i < k → B ≤ G i ∧ v.ownBlock ≠ some (G i) ∧ Blk w (G i) Te (List.replicate n (Value.int .i64 0))) (h3 : ∀ i j, i < k → j < k → G i = G j → i = j) (hE : Ext w w2) (hg : g = w.heap.size) (hB : B ≤ w.heap.size) (hb : Blk w2 g Te (List.replicate n (Value.int .i64 0)))
    (hgr : (w2.alloc (.cells #[Value.slice (some ⟨g, 0, none⟩) n n] Th)).grownBy w4 v.ownBlock) (hv : v'.ownBlock = v.ownBlock ∨ v'.ownBlock = some (w2.alloc (.cells #[Value.slice (some ⟨g, 0, none⟩) n n] Th)).heap.size)
    (how : w4.ownsRow B Th 1 v' (k + 1) ((List.range k).map (fun i => Value.slice (some ⟨G i, 0, none⟩) n n) ++ [Value.slice (some ⟨g, 0, none⟩) n n])) : Hdr w4 B v' (k + 1) n Th Te := by
  have hlt : ∀ i, i < k → G i < w.heap.size := fun i hi => (h2 i hi).2.2.lt
  have hgl := hb.lt
  have hsz := hE.size
  have hne : ∀ x, x < w2.heap.size → v.ownBlock ≠ some x → v'.ownBlock ≠ some x := by
    intro x hx hn e
    rcases hv with e' | e'
    · rw [e'] at e
      exact hn e
    · rw [e'] at e
      injection e with e
      simp at e
      omega
  have hvg : v.ownBlock ≠ some g := by
    intro e
    have := (h1.lt g e).2
    omega
  refine ⟨fun i => if i = k then g else G i, ?_, fun i hi => ?_, fun i j hi hj e => ?_⟩
  · have := how
    have e : (List.range (k + 1)).map (fun i => Value.slice (some ⟨if i = k then g else G i, 0, none⟩) n n) = (List.range k).map (fun i => Value.slice (some ⟨G i, 0, none⟩) n n) ++ [Value.slice (some ⟨g, 0, none⟩) n n] := by
      rw [List.range_succ, List.map_append]
      congr 1
      · apply List.map_congr_left
        intro i hi
        have := List.mem_range.1 hi
        rw [if_neg (by omega)]
      · simp
    rw [e]
    exact this
  · by_cases hik : i = k
    · subst hik
      simp only [if_true]
      exact ⟨by omega, hne g hgl hvg, (hb.ext ((Ext.refl _).alloc _)).grown hgr hvg⟩
    · simp only [hik, if_false]
      obtain ⟨e1, e2, e3⟩ := h2 i (by omega)
      exact ⟨e1, hne _ (Nat.lt_of_lt_of_le e3.lt hsz) e2, ((e3.ext hE).ext ((Ext.refl _).alloc _)).grown hgr e2⟩
  · have a1 := hlt i
    have a2 := hlt j
    have a3 := h3 i j
    by_cases hik : i = k <;> by_cases hjk : j = k <;> simp [hik, hjk] at e <;> omega
theorem Hdr.ext {w w' : World} {B k n : Nat} {v : Value} {Th Te : TypeId} (h : Hdr w B v k n Th Te) (hE : Ext w w') (how : ∀ xs, w.ownsRow B Th 1 v k xs → w'.ownsRow B Th 1 v k xs) : Hdr w' B v k n Th Te := by
  obtain ⟨G, h1, h2, h3⟩ := h
  exact ⟨G, how _ h1, fun i hi => ⟨(h2 i hi).1, (h2 i hi).2.1, (h2 i hi).2.2.ext hE⟩, h3⟩
/-- A row does not lie in the headers' block. -/
theorem Mat.ne {w : World} {B hd M m n i g : Nat} {Th Te : TypeId} {f : Nat → Nat → Int} (h : Mat w B hd M m n Th Te f) (hi : i < m) (hc : w.cell? ⟨hd, i, none⟩ = some (.slice (some ⟨g, 0, none⟩) n n)) : ¬ hd = g := by
  obtain ⟨G, hs, h1, h2, h3, h4, h5, h6⟩ := h
  obtain ⟨e1, e2, e3, e4⟩ := h5 i hi
  rw [h2.cell, e1] at hc
  injection hc with hc
  injection hc with hc
  injection hc with hc
  injection hc with hc
  intro e
  exact e3 (by rw [hc, e])
/-- The value of a cell, by name. -/
def cellV (w : World) (p : Addr) : Value := (w.cell? p).getD undef
theorem cellV_some {w : World} {p : Addr} {v : Value} (h : w.cell? p = some v) : w.cell? p = some (cellV w p) := by
  unfold cellV
  rw [h]
  rfl
/-- What holds of every world of a region that stores into a cell last. -/
theorem GrS {a b : World} {g o' : Nat} {u : Value} (hu : a.cell? ⟨g, o', none⟩ = some u) (hg : g < a.heap.size) (h : Ext a b) : (∀ (q o : Nat), q < a.heap.size → ¬ q = g → b.cell? ⟨q, o, none⟩ = a.cell? ⟨q, o, none⟩) ∧ b.cell? ⟨g, o', none⟩ = some (cellV b ⟨g, o', none⟩) ∧ (∀ (q o : Nat), q < a.heap.size → b.frozen? ⟨q, o, none⟩ = a.frozen? ⟨q, o, none⟩) ∧ a.grownBy b (some g) :=
  ⟨fun q o hq _ => h.facts.1 q o hq, cellV_some ((h.facts.1 g o' hg).trans hu), fun q o hq => h.facts.2.1 q o hq, ⟨h.os, h.tape, h.output, h.size, fun k hk _ => h.block k hk⟩⟩
theorem GrSet {a b : World} {g o' : Nat} {u : Value} (v : Value) (hu : a.cell? ⟨g, o', none⟩ = some u) (hg : g < a.heap.size) (h : Ext a b) : (∀ (q o : Nat), q < a.heap.size → ¬ q = g → (b.setCell ⟨g, o', none⟩ v).cell? ⟨q, o, none⟩ = a.cell? ⟨q, o, none⟩) ∧ (b.setCell ⟨g, o', none⟩ v).cell? ⟨g, o', none⟩ = some (cellV (b.setCell ⟨g, o', none⟩ v) ⟨g, o', none⟩) ∧ (∀ (q o : Nat), q < a.heap.size → (b.setCell ⟨g, o', none⟩ v).frozen? ⟨q, o, none⟩ = a.frozen? ⟨q, o, none⟩) ∧ a.grownBy (b.setCell ⟨g, o', none⟩ v) (some g) := by
  have hb : ∀ q, ¬ q = g → (b.setCell ⟨g, o', none⟩ v).heap[q]? = b.heap[q]? := fun q hq => Below.heap_setCell _ _ _ _ (show q ≠ g from hq)
  refine ⟨fun q o hq hne => (World.cell?_of_block (hb q hne)).trans (h.facts.1 q o hq), cellV_some (World.cell?_setCell_same _ _ _ ((h.facts.1 g o' hg).trans hu)), fun q o hq => ?_, ⟨h.os, h.tape, h.output, by simpa using h.size, fun k hk hne => (hb k (fun e => hne (by rw [e]))).trans (h.block k hk)⟩⟩
  rw [World.frozen?_setCell]
  exact h.facts.2.1 q o hq
end Go.Proofs.Ytabgcpoaepafjaa
namespace Go.Proofs.Ytabgcpoaepafjaa
open Go.RowKit
noncomputable def dualI (N E : List P2) : Int := if wholeB N E = true then detD ((fcs N E).length - 1) (tabD (sd N E) E.length) else 0
theorem dualI_yes {N E : List P2} (h : wholeB N E = true) : dualI N E = detD ((fcs N E).length - 1) (tabD (sd N E) E.length) := by unfold dualI; rw [if_pos h]
theorem dualI_no {N E : List P2} (h : wholeB N E = false) : dualI N E = 0 := by unfold dualI; rw [h]; rfl
theorem made_zeros (n : Nat) : (madeCells (Value.int .i64 0).cells (n * 1)).toList = List.replicate n (Value.int .i64 0) := by
  rw [Nat.mul_one]
  exact toList_madeCells_one _ _
set_option maxRecDepth 20000 in
set_option maxHeartbeats 8000000 in
theorem CountDualTrees_any (N E : List P2) (A B : Option Addr) (c c' : Nat) (w : World) (hw : WR w N E A B c c') :
    Calls Try.prog 13 #[.agg #[.slice A N.length c, .slice B E.length c']] w fun e w' => e = .returned (.int .i64 (dualI N E)) ∧ Ext w w' := by
  obtain ⟨i0, hi, hz0, hz1, hz2⟩ := info_parts rows_info
  obtain ⟨j0, hj, hy0, hy1, hy2⟩ := info_parts int_info
  have HI := hide (fun (W : World) (hE : Ext w W) => IsWhole_any N E A B c c' W (hw.ext hE))
  cases hwh : wholeB N E with
  | false =>
    have HV := hide (dualI_no hwh)
    have HC := hide (fun (W : World) (hE : Ext w W) => by have h := HI.out W hE; rw [hwh] at h; exact h)
    obtain ⟨V, hV⟩ : ∃ V, dualI N E = V := ⟨_, rfl⟩
    rw [hV] at HV ⊢
    clear hw hwh HI hV
    
    go_enter Try.func13, Try.ntmps13
    go_wp2_with fail
    obtain ⟨w0, hw⟩ : ∃ w1, w1 = w.alloc (Obj.cells #[Value.slice A N.length c, Value.slice B E.length c'] 27) := ⟨_, rfl⟩; rw [← hw]; have kT : Tr [(w.heap.size, [.slice A N.length c, .slice B E.length c'])] w w0 := (by rw [hw]; exact ⟨by (first | (simp [Bx, CellsAt, go_sem, *]; done) | (simp [Bx, CellsAt, go_sem, *]; omega)), by (repeat (first | exact kE | exact Ext.refl _ | apply Ext.alloc | apply Ext.drewN | apply Ext.drew | apply Ext.set0 | apply Ext.set1 | apply Ext.set2 | apply Ext.set3 | (refine Ext.setk ?_ (by omega) _) | (apply Ext.snoc; assumption)))⟩); have HT := hide kT; clear hw kT; have kT := HT.out; simp only [Tr, Bx, CellsAt, Nat.reduceAdd, Nat.zero_add, and_true] at kT; obtain ⟨⟨kz0, kf0, kc0_0, kc0_1⟩, kE⟩ := kT
    refine (HC.out _ kE).mono ?_
    rintro e w2 ⟨rfl, hb2⟩
    have HE2 := hide (kE.trans hb2)
    clear hb2
    go_wp2_with fail
    go_ret
    exact ⟨ret_int HV.out.symm, HE2.out⟩
  | true =>
    have HC := hide (fun (W : World) (hE : Ext w W) => by have h := HI.out W hE; rw [hwh] at h; exact h)
    have HV := hide (dualI_yes hwh)
    have hm := (wholeB_iff.1 hwh).1.m
    have hpos := (fcs_facts hwh).1
    have hl40 := fcs_len (N := N) (E := E)
    have HFO := hide (fun (W : World) (hE : Ext w W) => (FacesOf_any N E A B c c' W (hw.ext hE)).mono (R' := fun e w' => ∃ A2 c2, e = .returned (.slice A2 (fcs N E).length c2) ∧ Ext W w') (by rintro e w' ⟨A2, c2, h1, _, _, _, _, h2⟩; exact ⟨A2, c2, h1, h2⟩))
    have HSL := hide (fun (a b : Nat) (ha : a < (fcs N E).length) (hb : b < (fcs N E).length) (W : World) (hE : Ext w W) => (SharedLeads_any N E A B c c' a b W (hw.ext hE) ha hb).mono (R' := fun e w' => ∃ A2 c2, e = .returned (.slice A2 (shL (sd N E) a b E.length).length c2) ∧ Ext W w') (by rintro e w' ⟨A2, c2, h1, _, h2⟩; exact ⟨A2, c2, h1, h2⟩))
    have HDD := hide (fun (a : Nat) (ha : a < (fcs N E).length) (W : World) (hE : Ext w W) => DualDegree_any N E A B c c' a W (hw.ext hE) ha)
    have HSM := hide (tab_sml (sd N E) ((fcs N E).length - 1) hm)
    have HTD := hide (fun i => tab_diag (sd N E) i E.length)
    have HTO := hide (fun i j (h : i ≠ j) => tab_off (sd N E) h E.length)
    have HSHL := hide (fun a b => shL_le (sd N E) a b E.length)
    obtain ⟨V, hV⟩ : ∃ V, dualI N E = V := ⟨_, rfl⟩
    rw [hV] at HV ⊢
    obtain ⟨n, hn⟩ : ∃ n, (fcs N E).length = n := ⟨_, rfl⟩
    rw [hn] at hpos hl40 HFO HSL HDD HSM HV
    obtain ⟨q, hq⟩ : ∃ q, n = q + 1 := ⟨n - 1, by omega⟩
    subst hq
    rw [Nat.add_sub_cancel] at HV HSM
    obtain ⟨s, hs⟩ : ∃ s, sd N E = s := ⟨_, rfl⟩
    rw [hs] at HSL HDD HSM HV HTD HTO HSHL
    obtain ⟨T, hT⟩ : ∃ T, tabD s E.length = T := ⟨_, rfl⟩
    rw [hT] at HSM HV HTD HTO
    have HW := hide hw
    clear hw hwh HI hV hn hs hT hpos
    
    go_enter Try.func13, Try.ntmps13
    go_wp2_with fail
    obtain ⟨w0, hw⟩ : ∃ w1, w1 = w.alloc (Obj.cells #[Value.slice A N.length c, Value.slice B E.length c'] 27) := ⟨_, rfl⟩; rw [← hw]; have kT : Tr [(w.heap.size, [.slice A N.length c, .slice B E.length c'])] w w0 := (by rw [hw]; exact ⟨by (first | (simp [Bx, CellsAt, go_sem, *]; done) | (simp [Bx, CellsAt, go_sem, *]; omega)), by (repeat (first | exact kE | exact Ext.refl _ | apply Ext.alloc | apply Ext.drewN | apply Ext.drew | apply Ext.set0 | apply Ext.set1 | apply Ext.set2 | apply Ext.set3 | (refine Ext.setk ?_ (by omega) _) | (apply Ext.snoc; assumption)))⟩); have HT := hide kT; clear hw kT; have kT := HT.out; simp only [Tr, Bx, CellsAt, Nat.reduceAdd, Nat.zero_add, and_true] at kT; obtain ⟨⟨kz0, kf0, kc0_0, kc0_1⟩, kE⟩ := kT
    refine (HC.out w0 kE).mono ?_; rintro e w1 ⟨rfl, hb⟩; have HT := hide (HT.out.ext hb); have Hw1 := hide hb; clear hb; clear kz0 kf0 kc0_0 kc0_1 kE; have kT := HT.out; simp only [Tr, Bx, CellsAt, Nat.reduceAdd, Nat.zero_add, and_true] at kT; obtain ⟨⟨kz0, kf0, kc0_0, kc0_1⟩, kE⟩ := kT
    go_wp2_with fail
    refine (HFO.out _ kE).mono ?_
    rintro e w2 ⟨A2, c2, rfl, hb2⟩
    have HT' := hide (HT.out.ext hb2)
    clear hb2 HT
    have HT := HT'
    clear HT'
    clear kz0 kf0 kc0_0 kc0_1 kE
    have kT := HT.out; simp only [Tr, Bx, CellsAt, Nat.reduceAdd, Nat.zero_add, and_true] at kT; obtain ⟨⟨kz0, kf0, kc0_0, kc0_1⟩, kE⟩ := kT
    have hq1 : IntKind.i64.wrap (((q + 1 : Nat) : Int) - 1) = (q : Int) := by rw [IntKind.wrap_i64]; omega
    have hq2 : ((q + 1 : Nat) : Int) - 1 = (q : Int) := by omega
    have HTZ := HT
    have HZ2 := hide kz0
    go_wp2_with (at_make; refine wpList_make_full _ rfl _ _ 40 rfl w2.heap.size 29 i0 (.slice none 0 0) 1 Try.underlying40 hi hz0 hz1 .i64 .i64 q q q rfl rfl (by omega) (by omega) (by rw [hz2]; omega) (by unfold maxLen; omega) (Nat.le_refl _) ?_; intro w3 hown hgrow)
    obtain ⟨hs, hb1, hb2, hb3, hb4⟩ := Blk.of_own hown
    have HM0 : Hid (Mat w3 w2.heap.size w2.heap.size q 0 q 29 3 T) := hide (Mat.start hs (Nat.le_refl _) hb1 (by omega))
    have HE3 := hide (show Ext w2 w3 from grown_ext hgrow)
    have hsz3 := hb1.lt
    clear hown hgrow hb1 hb2 hb3 hb4 HT hq1 hq2
    clear kz0 kf0 kc0_0 kc0_1 kE
    go_loopw [18] (fun i wr => ∃ a : Nat, a ≤ q ∧ i = .int .i64 a ∧ Hid (Mat wr w2.heap.size w2.heap.size q a q 29 3 T) ∧ Hid (Ext w2 wr)) (fun i _ => q - (intOf i).toNat)
    case atStart => exact ⟨0, Nat.zero_le _, rfl, HM0, HE3⟩
    case round =>
      clear HM0 HE3
      obtain ⟨a, ha, rfl, HM, HE⟩ := hrel
      have HB := hide (HE.out.size)
      by_cases hlt : a < q
      · have haz : (a : Int) < (q : Int) := by omega
        obtain ⟨⟨hv0, hh0⟩, hh1⟩ := HM.out.header hlt
        have hml := HM.out.lt.2
        have hsz := HB.out
        go_wp2_with (at_make; refine wpList_make_full _ rfl _ _ 29 rfl w2.heap.size 3 j0 (.int .i64 0) 1 Try.underlying29 hj hy0 hy1 .i64 .i64 q q q rfl rfl (by omega) (by omega) (by rw [hy2]; omega) (by unfold maxLen; omega) (by omega) ?_; intro w5 hown hgrow; have hX2 := grown_ext hgrow; have HX2 := hide hX2; obtain ⟨⟨hv2, hh2⟩, hh3⟩ := (HM.out.ext hX2).header hlt; clear hX2)
        rw [made_zeros] at hown
        have hm3 := HM.out.row (f' := fun i j => if i = a then 0 else T i j) hlt HB.out HX2.out (Blk.of_full hown) (fun i j hij => by show (if i = a then 0 else T i j) = _; rw [if_neg (by omega)]) (fun j => by simp)
        have he3 := (HE.out.trans HX2.out).set (p := ⟨w2.heap.size, a, none⟩) (Nat.le_refl _) (.slice (some ⟨wr.heap.size, 0, none⟩) q q)
        obtain ⟨w6, hw6⟩ : ∃ w6, w6 = w5.setCell ⟨w2.heap.size, a, none⟩ (.slice (some ⟨wr.heap.size, 0, none⟩) q q) := ⟨_, rfl⟩
        rw [← hw6] at hm3 he3 ⊢
        have HM6 := hide hm3
        have HE6 := hide he3
        obtain ⟨⟨hv6, hh6⟩, hh7⟩ := hm3.header hlt
        clear hown hgrow hm3 he3 hw6 hh0 hh1 hh2 hh3 HX2 HM HE hml hsz
        go_loopw [31] (fun i wi => ∃ b : Nat, b ≤ q ∧ i = .int .i64 b ∧ (∃ f, Hid (Mat wi w2.heap.size w2.heap.size q (a + 1) q 29 3 f) ∧ Hid (∀ i j, i < a → j < q → f i j = T i j) ∧ Hid (∀ j, j < b → j ≠ a → f a j = T a j)) ∧ Hid (Ext w2 wi)) (fun i _ => q - (intOf i).toNat)
        case atStart => exact ⟨0, Nat.zero_le _, rfl, ⟨_, HM6, hide (fun i j hi hj => by show (if i = a then 0 else T i j) = _; rw [if_neg (by omega)]), hide (fun j hj => absurd hj (Nat.not_lt_zero j))⟩, HE6⟩
        case round =>
          clear HM6 HE6 hh6 hh7
          obtain ⟨b, hb, rfl, ⟨f, HM, HF1, HF2⟩, HE⟩ := hrel
          by_cases hltb : b < q
          · have hbz : (b : Int) < (q : Int) := by omega
            obtain ⟨g, a1, a2, a3, a4, a5, a6⟩ := HM.out.at_ (Nat.lt_succ_self a) hltb
            have HA6 := hide a6
            have HGC := hide (And.intro a2 a5)
            have n1 := HM.out.ne (Nat.lt_succ_self a) a1
            have n2 : ¬ w.heap.size = g := by have := HZ2.out; omega
            have hhw := HM.out.lt.2
            have HSLW := hide (fun (W : World) (hE : Ext w W) => HSL.out (a + 1) (b + 1) (by omega) (by omega) W hE)
            have HSHW := hide (HSHL.out (a + 1) (b + 1))
            have HTOW := hide (fun (h : a ≠ b) => HTO.out a b h)
            obtain ⟨L, hL⟩ : ∃ L, (shL s (a + 1) (b + 1) E.length).length = L := ⟨_, rfl⟩
            rw [hL] at HSLW HSHW HTOW
            have hLm := HSHW.out
            have hT2 := HTZ.out.ext HE.out
            have HT := hide hT2
            have kT := HT.out; simp only [Tr, Bx, CellsAt, Nat.reduceAdd, Nat.zero_add, and_true] at kT; obtain ⟨⟨kz0, kf0, kc0_0, kc0_1⟩, kE⟩ := kT
            clear hL hT2 a6
            have HX := hide kE
            go_wp2_with fail
            have p1 : IntKind.i64.wrap ((a : Int) + 1) = ((a + 1 : Nat) : Int) := by rw [IntKind.wrap_i64]; omega
            have p2 : IntKind.i64.wrap ((b : Int) + 1) = ((b + 1 : Nat) : Int) := by rw [IntKind.wrap_i64]; omega
            have p3 : IntKind.i64.wrap (-(L : Int)) = -(L : Int) := by rw [IntKind.wrap_i64]; omega
            go_region_held3 (fun w' => (∀ (q o : Nat), q < wr.heap.size → ¬ q = g → w'.cell? ⟨q, o, none⟩ = wr.cell? ⟨q, o, none⟩) ∧ w'.cell? ⟨g, b, none⟩ = some (cellV w' ⟨g, b, none⟩) ∧ (∀ (q o : Nat), q < wr.heap.size → w'.frozen? ⟨q, o, none⟩ = wr.frozen? ⟨q, o, none⟩) ∧ wr.grownBy w' (some g)) ((first | (apply GrSet _ HGC.out.1 HGC.out.2; repeat (first | exact kE | exact Ext.refl _ | apply Ext.alloc | apply Ext.drewN | apply Ext.drew | apply Ext.set0 | apply Ext.set1 | apply Ext.set2 | apply Ext.set3 | (refine Ext.setk ?_ (by omega) _) | (apply Ext.snoc; assumption))) | (apply GrS HGC.out.1 HGC.out.2; repeat (first | exact kE | exact Ext.refl _ | apply Ext.alloc | apply Ext.drewN | apply Ext.drew | apply Ext.set0 | apply Ext.set1 | apply Ext.set2 | apply Ext.set3 | (refine Ext.setk ?_ (by omega) _) | (apply Ext.snoc; assumption))))) ((first | (go_at_call 49; refine (HSLW.out _ (HX.out.trans (by clear kE; repeat (first | exact kE | exact Ext.refl _ | apply Ext.alloc | apply Ext.drewN | apply Ext.drew | apply Ext.set0 | apply Ext.set1 | apply Ext.set2 | apply Ext.set3 | (refine Ext.setk ?_ (by omega) _) | (apply Ext.snoc; assumption))))).mono ?_; rintro e w7 ⟨A7, c7, rfl, hb7⟩)))
            clear p1 p2 p3 hLm
            have hb8 : Ext wr w7 := ((Ext.refl wr).drew).trans hb7
            have HE9 := hide ((HE.out.trans hb8).set (p := ⟨g, b, none⟩) a4 (.int .i64 (-(L : Int))))
            obtain ⟨g9, f1, f2, f3, f4, f5, f6⟩ := (HM.out.ext hb8).at_ (Nat.lt_succ_self a) hltb
            have e9 : g = g9 := by
              have e := (Ext.facts hb8).1 w2.heap.size a hhw
              rw [f1, a1] at e
              injection e with e
              injection e with e
              injection e with e
              injection e with e
              exact e.symm
            subst e9
            have HM9 := hide (f6 (-(L : Int)))
            have HF3 := hide (fun i j (h1 : i < a) (h2 : j < q) => (show upd f a b (-(L : Int)) i j = T i j by rw [upd_ne _ _ _ _ (.inl (by omega)), HF1.out i j h1 h2]))
            have HF4 := hide (fun j (h1 : j < b + 1) (h2 : j ≠ a) => (show upd f a b (-(L : Int)) a j = T a j by
              by_cases hj : j = b
              · subst hj
                rw [upd_same, HTOW.out (fun e => h2 e.symm)]
              · rw [upd_ne _ _ _ _ (.inr hj), HF2.out j (by omega) h2]))
            clear f1 f2 f3 f4 f5 f6 HA6 HX hb7 hb8 HM HF1 HF2 HTOW HGC a1 a2 a3 n1 n2 HT kE kc0_0 kc0_1 kf0 kz0 HE HSLW
            obtain ⟨w8, hw8⟩ : ∃ w8, w8 = w7.setCell ⟨g, b, none⟩ (.int .i64 (-(L : Int))) := ⟨_, rfl⟩
            rw [← hw8] at HM9 HE9 ⊢
            clear hw8
            go_wp2_with fail
            go_roundw
            case rel => exact ⟨b + 1, by omega, by go_num, ⟨_, by first | exact HM9 | exact hide HM9.out, by first | exact HF3 | exact hide HF3.out, by first | exact HF4 | exact hide HF4.out⟩, by first | exact HE9 | exact hide HE9.out⟩
            case measure => simp [intOf]; omega
          · obtain rfl : b = q := by omega
            obtain ⟨g, a1, a2, a3, a4, a5, a6⟩ := HM.out.at_ (Nat.lt_succ_self a) hlt
            have HGC := hide (And.intro a2 a5)
            have n1 := HM.out.ne (Nat.lt_succ_self a) a1
            have n2 : ¬ w.heap.size = g := by have := HZ2.out; omega
            have hhw := HM.out.lt.2
            have HDW := hide (fun (W : World) (hE : Ext w W) => HDD.out (a + 1) (by omega) W hE)
            have HTA := hide (HTD.out a)
            obtain ⟨L, hL⟩ : ∃ L, dgD s (a + 1) (2 * E.length) = L := ⟨_, rfl⟩
            rw [hL] at HDW HTA
            have hT2 := HTZ.out.ext HE.out
            have HT := hide hT2
            have kT := HT.out; simp only [Tr, Bx, CellsAt, Nat.reduceAdd, Nat.zero_add, and_true] at kT; obtain ⟨⟨kz0, kf0, kc0_0, kc0_1⟩, kE⟩ := kT
            clear hL hT2 a6
            have HX := hide kE
            go_wp2_with fail
            have p1 : IntKind.i64.wrap ((a : Int) + 1) = ((a + 1 : Nat) : Int) := by rw [IntKind.wrap_i64]; omega
            go_region_held3 (fun w' => (∀ (q o : Nat), q < wr.heap.size → ¬ q = g → w'.cell? ⟨q, o, none⟩ = wr.cell? ⟨q, o, none⟩) ∧ w'.cell? ⟨g, a, none⟩ = some (cellV w' ⟨g, a, none⟩) ∧ (∀ (q o : Nat), q < wr.heap.size → w'.frozen? ⟨q, o, none⟩ = wr.frozen? ⟨q, o, none⟩) ∧ wr.grownBy w' (some g)) ((first | (apply GrSet _ HGC.out.1 HGC.out.2; repeat (first | exact kE | exact Ext.refl _ | apply Ext.alloc | apply Ext.drewN | apply Ext.drew | apply Ext.set0 | apply Ext.set1 | apply Ext.set2 | apply Ext.set3 | (refine Ext.setk ?_ (by omega) _) | (apply Ext.snoc; assumption))) | (apply GrS HGC.out.1 HGC.out.2; repeat (first | exact kE | exact Ext.refl _ | apply Ext.alloc | apply Ext.drewN | apply Ext.drew | apply Ext.set0 | apply Ext.set1 | apply Ext.set2 | apply Ext.set3 | (refine Ext.setk ?_ (by omega) _) | (apply Ext.snoc; assumption))))) ((first | (go_at_call 50; refine (HDW.out _ (HX.out.trans (by clear kE; repeat (first | exact kE | exact Ext.refl _ | apply Ext.alloc | apply Ext.drewN | apply Ext.drew | apply Ext.set0 | apply Ext.set1 | apply Ext.set2 | apply Ext.set3 | (refine Ext.setk ?_ (by omega) _) | (apply Ext.snoc; assumption))))).mono ?_; rintro e w7 ⟨rfl, hb7⟩)))
            clear p1
            have hb8 : Ext wr w7 := ((Ext.refl wr).drew).trans hb7
            have HE9 := hide ((HE.out.trans hb8).set (p := ⟨g, a, none⟩) a4 (.int .i64 (L : Int)))
            obtain ⟨g9, f1, f2, f3, f4, f5, f6⟩ := (HM.out.ext hb8).at_ (Nat.lt_succ_self a) hlt
            have e9 : g = g9 := by
              have e := (Ext.facts hb8).1 w2.heap.size a hhw
              rw [f1, a1] at e
              injection e with e
              injection e with e
              injection e with e
              injection e with e
              exact e.symm
            subst e9
            have HM9 := hide ((f6 (L : Int)).congr (f' := T) fun i j hi hj => by
              by_cases hia : i = a
              · subst hia
                by_cases hja : j = i
                · subst hja
                  rw [upd_same, HTA.out]
                · rw [upd_ne _ _ _ _ (.inr hja), HF2.out j hj hja]
              · rw [upd_ne _ _ _ _ (.inl hia), HF1.out i j (by omega) hj])
            clear f1 f2 f3 f4 f5 f6 HX hb7 hb8 HM HF1 HF2 HTA HGC a1 a2 a3 n1 n2 HT kE kc0_0 kc0_1 kf0 kz0 HE HDW
            obtain ⟨w8, hw8⟩ : ∃ w8, w8 = w7.setCell ⟨g, a, none⟩ (.int .i64 (L : Int)) := ⟨_, rfl⟩
            rw [← hw8] at HM9 HE9 ⊢
            clear hw8
            go_wp2_with fail
            go_roundw
            case rel => exact ⟨a + 1, by omega, by go_num, by first | exact HM9 | exact hide HM9.out, by first | exact HE9 | exact hide HE9.out⟩
            case measure => simp [intOf]; omega
      · obtain rfl : a = q := by omega
        have HX := hide (Ext.trans (HTZ.out.2) HE.out)
        have HBB := HZ2
        go_wp2_with fail
        refine (determinant_any a w2.heap.size a w2.heap.size T _ (by omega) (Nat.le_refl _) HSM.out HM.out).mono ?_
        rintro e w9 ⟨rfl, hb9⟩
        have HE9 := hide (show Ext w w9 from Below.trans HX.out (Below.mono hb9 (Nat.le_of_lt HBB.out)))
        clear hb9
        go_wp2_with fail
        go_ret
        exact ⟨ret_int HV.out.symm, HE9.out⟩
end Go.Proofs.Ytabgcpoaepafjaa
namespace Go.Proofs.Ytabgcpoaepafjaa
def shN (k : Nat) : List P2 := if k = 0 then [(0, 0), (8, 0), (8, 8), (0, 8), (4, 4)] else if k = 1 then [(0, 0), (12, 0), (4, 12), (4, 3), (7, 3), (5, 6)]
  else if k = 2 then [(0, 0), (4, 0), (8, 0), (12, 0), (0, 5), (4, 5), (8, 5), (12, 5), (0, 9), (4, 9), (8, 9), (12, 9)]
  else if k = 3 then [(6, 6), (6, 0), (12, 4), (10, 11), (2, 11), (0, 4)] else [(0, 0), (3, 0), (3, 3), (0, 3), (6, 1), (9, 1), (9, 5), (6, 5)]
def shE (k : Nat) : List P2 := if k = 0 then [(0, 1), (1, 2), (2, 3), (0, 3), (0, 4), (1, 4), (2, 4), (3, 4)] else if k = 1 then [(0, 1), (1, 2), (0, 2), (3, 4), (4, 5), (3, 5), (0, 3)]
  else if k = 2 then [(0, 1), (1, 2), (2, 3), (4, 5), (5, 6), (6, 7), (8, 9), (9, 10), (10, 11), (0, 4), (1, 5), (2, 6), (3, 7), (4, 8), (5, 9), (6, 10), (7, 11)]
  else if k = 3 then [(0, 1), (0, 2), (0, 3), (0, 4), (0, 5), (1, 2), (2, 3), (3, 4), (4, 5), (1, 5)] else [(0, 1), (1, 2), (2, 3), (0, 3), (4, 5), (5, 6), (6, 7), (4, 7)]
def allTo (n : Nat) (p : Nat → Bool) : Bool := (List.range n).all p
theorem allTo_iff {n : Nat} {p : Nat → Bool} : allTo n p = true ↔ ∀ i, i < n → p i = true := by simp [allTo]
def winT (N E : List P2) : Bool := decide (1 ≤ N.length ∧ N.length ≤ 12) && decide (E.length ≤ 20) &&
  allTo N.length (fun j => nodeOk (at2 N j) && allTo j fun i => !decide (at2 N i = at2 N j)) &&
  allTo E.length (fun j => leadOk N (at2 E j) && allTo j (fun i => !crossB N (at2 E i) (at2 E j)) && allTo N.length fun i => decide ((i : Int) = (at2 E j).1) || decide ((i : Int) = (at2 E j).2) || !onLead N (at2 E j) (at2 N i))
theorem winT_ok {N E : List P2} (h : winT N E = true) : WinOk N E := by
  unfold winT at h
  simp only [Bool.and_eq_true, decide_eq_true_eq, allTo_iff, Bool.not_eq_true', decide_eq_false_iff_not, Bool.or_eq_true] at h
  obtain ⟨⟨⟨h1, h2⟩, h3⟩, h4⟩ := h
  refine ⟨h1, h2, fun j hj => h3 j hj, fun j hj => ?_⟩
  obtain ⟨⟨a, b⟩, c⟩ := h4 j hj
  refine ⟨a, b, fun i hi n1 n2 => ?_⟩
  rcases c i hi with (q | q) | q
  · exact absurd q n1
  · exact absurd q n2
  · exact q
def wholeT (N E : List P2) : Bool := winT N E && decide (0 < E.length) && decide ((memN (it (spreadTo E E.length) N.length 1) N.length).length = N.length)
theorem wholeT_ok {N E : List P2} (h : wholeT N E = true) : wholeB N E = true := by
  unfold wholeT at h
  simp only [Bool.and_eq_true, decide_eq_true_eq] at h
  obtain ⟨⟨h1, h2⟩, h3⟩ := h
  have hw := winT_ok h1
  refine wholeB_iff.2 ⟨hw, h2, (whole_spread (by have := hw.n; omega) fun j hj => ?_).1 h3⟩
  have hl := (leadOk_iff.1 (hw.leads j hj).1).1
  omega
theorem sh_whole {k : Nat} (h : k < 4) : wholeB (shN k) (shE k) = true := by
  apply wholeT_ok
  match k, h with
  | 0, _ => decide +kernel
  | 1, _ => decide +kernel
  | 2, _ => decide +kernel
  | 3, _ => decide +kernel
theorem sh_win {k : Nat} (h : k < 5) : WinOk (shN k) (shE k) := by
  apply winT_ok
  match k, h with
  | 0, _ => decide +kernel
  | 1, _ => decide +kernel
  | 2, _ => decide +kernel
  | 3, _ => decide +kernel
  | 4, _ => decide +kernel
theorem sh_size {k : Nat} (h : k < 5) : 5 ≤ (shN k).length ∧ 7 ≤ (shE k).length ∧ (shE k).length ≤ (shN k).length + 5 ∧ (shN k).length ≤ 12 := by
  match k, h with
  | 0, _ => decide
  | 1, _ => decide
  | 2, _ => decide
  | 3, _ => decide
  | 4, _ => decide
end Go.Proofs.Ytabgcpoaepafjaa
