/- The walk of the reference's CountSpots. No condition but that a list has at most 1048576 elements. -/
import Derived.Test.YtjibcmmnohjhkaaFlawC
namespace Go.Proofs.Ytjibcmmnohjhkaa
open Go.RowKit

theorem mem_take_succ (l : List P2) (p : P2) (i : Nat) (h : i < l.length) : p ∈ l.take (i + 1) ↔ p ∈ l.take i ∨ l[i] = p := by
  rw [List.take_succ_eq_append_getElem h, List.mem_append]
  simp [eq_comm]
def fresh (l : List P2) (k i : Nat) : Bool := match l[k]? with | some p => !decide (p ∈ l.take i) | none => true
theorem fresh_at {l : List P2} {k : Nat} (h : k < l.length) (i : Nat) : fresh l k i = !decide (l[k] ∈ l.take i) := by simp [fresh, h]
theorem fresh_zero (l : List P2) (k : Nat) : fresh l k 0 = true := by unfold fresh; cases l[k]? <;> simp
theorem fresh_hit {l : List P2} {k i : Nat} (h : k < l.length) (hi : i < l.length) (he : l[i] = l[k]) : fresh l k (i + 1) = false := by
  rw [fresh_at h]
  have : l[k] ∈ l.take (i + 1) := (mem_take_succ l _ i hi).2 (.inr he)
  simp [this]
theorem fresh_no {l : List P2} {k i : Nat} (h : k < l.length) (hf : fresh l k i = false) (hi : i < l.length) : fresh l k (i + 1) = false := by
  rw [fresh_at h] at hf ⊢
  have h1 : l[k] ∈ l.take i := by simpa using hf
  have : l[k] ∈ l.take (i + 1) := (mem_take_succ l _ i hi).2 (.inl h1)
  simp [this]
theorem fresh_on {l : List P2} {k i : Nat} (h : k < l.length) (hi : i < l.length) (hf : fresh l k i = true) (he : l[i] ≠ l[k]) : fresh l k (i + 1) = true := by
  rw [fresh_at h] at hf ⊢
  have h1 : ¬ l[k] ∈ l.take i := by simpa using hf
  have : ¬ l[k] ∈ l.take (i + 1) := fun hm => by
    rcases (mem_take_succ l _ i hi).1 hm with h2 | h2
    · exact h1 h2
    · exact he h2
  simp [this]
set_option maxHeartbeats 2000000 in
theorem sCountSpots_any (W H : Int) (l : List P2) (A : Option Addr) (c : Nat) (a0 a1 p0 p1 : Int) (w : World) (hl : l.length ≤ 1048576) (hr : R2 w A l) :
    Calls Try.prog 24 #[.agg #[.int .i64 W, .int .i64 H, .slice A l.length c], .agg #[.int .i64 a0, .int .i64 a1], .agg #[.int .i64 p0, .int .i64 p1]] w fun e w' => e = .returned (.int .i64 (spots W H l (a0, a1) (p0, p1))) ∧ Ext w w' := by
  have HR := hide hr
  clear hr
  by_cases h1 : flawedOk W H l = true
  · by_cases h2 : inR a0 (-1000) 1000 = true
    · by_cases h3 : inR a1 (-1000) 1000 = true
      · have B2 := inR_true h2
        have B3 := inR_true h3
        go_enter Try.func24, Try.ntmps24
        go_wp2_with fail
        obtain ⟨w1, hw1⟩ : ∃ w1, w1 = (((w.alloc (Obj.cells #[Value.int IntKind.i64 W, Value.int IntKind.i64 H, Value.slice A l.length c] 35)).alloc (Obj.cells #[Value.int IntKind.i64 a0, Value.int IntKind.i64 a1] 42)).alloc (Obj.cells #[Value.int IntKind.i64 p0, Value.int IntKind.i64 p1] 25)) := ⟨_, rfl⟩
        rw [← hw1]
        have cc : w1.cell? ⟨w.heap.size, 0, none⟩ = some (.int .i64 W) ∧ w1.cell? ⟨w.heap.size, 1, none⟩ = some (.int .i64 H) ∧ w1.cell? ⟨w.heap.size, 2, none⟩ = some (.slice A l.length c) ∧ w1.cell? ⟨w.heap.size + 1, 0, none⟩ = some (.int .i64 a0) ∧ w1.cell? ⟨w.heap.size + 1, 1, none⟩ = some (.int .i64 a1) ∧ w1.cell? ⟨w.heap.size + 1 + 1, 0, none⟩ = some (.int .i64 p0) ∧ w1.cell? ⟨w.heap.size + 1 + 1, 1, none⟩ = some (.int .i64 p1) := by rw [hw1]; simp [go_sem, *]
        obtain ⟨w1c0, w1c1, w1c2, w1c3, w1c4, w1c5, w1c6⟩ := cc
        have w1z0 : w.heap.size < w1.heap.size := by rw [hw1]; simp; try omega
        have w1z1 : w.heap.size + 1 < w1.heap.size := by rw [hw1]; simp; try omega
        have w1z2 : w.heap.size + 1 + 1 < w1.heap.size := by rw [hw1]; simp; try omega
        have Ew1 : Ext w w1 := by rw [hw1]; repeat (first | exact kE | exact Ext.refl _ | apply Ext.alloc | apply Ext.drewN | apply Ext.drew | apply Ext.set0 | apply Ext.set1 | apply Ext.set2 | apply Ext.set3 | (refine Ext.setk ?_ (by omega) _) | (apply Ext.snoc; assumption))
        clear hw1
        refine (sFlawedOk_any W H l A c _ hl (HR.out.ext Ew1)).mono ?_; rintro e w2 ⟨rfl, hb2⟩
        have w2c0 : w2.cell? ⟨w.heap.size, 0, none⟩ = some (.int .i64 W) := (hb2.facts.1 _ 0 w1z0).trans w1c0
        have w2c1 : w2.cell? ⟨w.heap.size, 1, none⟩ = some (.int .i64 H) := (hb2.facts.1 _ 1 w1z0).trans w1c1
        have w2c2 : w2.cell? ⟨w.heap.size, 2, none⟩ = some (.slice A l.length c) := (hb2.facts.1 _ 2 w1z0).trans w1c2
        have w2z0 : w.heap.size < w2.heap.size := hb2.facts.2.2 _ w1z0
        have w2c3 : w2.cell? ⟨w.heap.size + 1, 0, none⟩ = some (.int .i64 a0) := (hb2.facts.1 _ 0 w1z1).trans w1c3
        have w2c4 : w2.cell? ⟨w.heap.size + 1, 1, none⟩ = some (.int .i64 a1) := (hb2.facts.1 _ 1 w1z1).trans w1c4
        have w2z1 : w.heap.size + 1 < w2.heap.size := hb2.facts.2.2 _ w1z1
        have w2c5 : w2.cell? ⟨w.heap.size + 1 + 1, 0, none⟩ = some (.int .i64 p0) := (hb2.facts.1 _ 0 w1z2).trans w1c5
        have w2c6 : w2.cell? ⟨w.heap.size + 1 + 1, 1, none⟩ = some (.int .i64 p1) := (hb2.facts.1 _ 1 w1z2).trans w1c6
        have w2z2 : w.heap.size + 1 + 1 < w2.heap.size := hb2.facts.2.2 _ w1z2
        have Ew2 := Ew1.trans hb2
        clear hb2 Ew1 w1c0 w1c1 w1c2 w1c3 w1c4 w1c5 w1c6 w1z0 w1z1 w1z2
        go_wp2_with (first | (go_at_call 49; refine (l01In_any _ _ _ _).mono ?_; rintro e w' ⟨rfl, rfl⟩))
        have Hw2 := hide (And.intro w2c0 (And.intro w2c1 (And.intro w2c2 (And.intro w2c3 (And.intro w2c4 (And.intro w2c5 (And.intro w2c6 (And.intro w2z0 (And.intro w2z1 (And.intro w2z2 Ew2))))))))))
        clear w2c0 w2c1 w2c2 w2c3 w2c4 w2c5 w2c6 w2z0 w2z1 w2z2 Ew2
        go_loopw [7, 8] (fun n i wr => ∃ k : Nat, k ≤ l.length ∧ i = .int .i64 k ∧ n = .int .i64 (countTo l (a0, a1) (p0, p1) k) ∧ Ext w2 wr) (fun _ i _ => l.length - (intOf i).toNat)
        case atStart => exact ⟨0, Nat.zero_le _, rfl, rfl, Ext.refl _⟩
        case round =>
          obtain ⟨k, hk, rfl, rfl, hE⟩ := hrel
          have hle := countTo_le l (a0, a1) (p0, p1) k
          obtain ⟨w2c0, w2c1, w2c2, w2c3, w2c4, w2c5, w2c6, w2z0, w2z1, w2z2, Ew2⟩ := Hw2.out
          have wrc0 : wr.cell? ⟨w.heap.size, 0, none⟩ = some (.int .i64 W) := (hE.facts.1 _ 0 w2z0).trans w2c0
          have wrc1 : wr.cell? ⟨w.heap.size, 1, none⟩ = some (.int .i64 H) := (hE.facts.1 _ 1 w2z0).trans w2c1
          have wrc2 : wr.cell? ⟨w.heap.size, 2, none⟩ = some (.slice A l.length c) := (hE.facts.1 _ 2 w2z0).trans w2c2
          have wrz0 : w.heap.size < wr.heap.size := hE.facts.2.2 _ w2z0
          have wrc3 : wr.cell? ⟨w.heap.size + 1, 0, none⟩ = some (.int .i64 a0) := (hE.facts.1 _ 0 w2z1).trans w2c3
          have wrc4 : wr.cell? ⟨w.heap.size + 1, 1, none⟩ = some (.int .i64 a1) := (hE.facts.1 _ 1 w2z1).trans w2c4
          have wrz1 : w.heap.size + 1 < wr.heap.size := hE.facts.2.2 _ w2z1
          have wrc5 : wr.cell? ⟨w.heap.size + 1 + 1, 0, none⟩ = some (.int .i64 p0) := (hE.facts.1 _ 0 w2z2).trans w2c5
          have wrc6 : wr.cell? ⟨w.heap.size + 1 + 1, 1, none⟩ = some (.int .i64 p1) := (hE.facts.1 _ 1 w2z2).trans w2c6
          have wrz2 : w.heap.size + 1 + 1 < wr.heap.size := hE.facts.2.2 _ w2z2
          clear w2c0 w2c1 w2c2 w2c3 w2c4 w2c5 w2c6 w2z0 w2z1 w2z2
          by_cases hlt : k < l.length
          · have hs := spot_small h1 hlt
            obtain ⟨wo, rfl⟩ : ∃ wo : World, wo = wr := ⟨_, rfl⟩
            have F0 := hide (fresh_zero l k)
            go_wp2_with fail
            have Hwr := hide (And.intro wrc0 (And.intro wrc1 (And.intro wrc2 (And.intro wrc3 (And.intro wrc4 (And.intro wrc5 (And.intro wrc6 (And.intro wrz0 (And.intro wrz1 (And.intro wrz2 hE))))))))))
            clear wrc0 wrc1 wrc2 wrc3 wrc4 wrc5 wrc6 wrz0 wrz1 wrz2 hE
            go_loopw [9, 10] (fun f i wi => ∃ j : Nat, j ≤ k ∧ i = .int .i64 j ∧ f = .bool (fresh l k j) ∧ Ext wo wi) (fun _ i _ => k - (intOf i).toNat)
            case atStart => exact ⟨0, Nat.zero_le _, rfl, by rw [F0.out], Ext.refl _⟩
            case round =>
              obtain ⟨j, hj, rfl, rfl, hEi⟩ := hrel
              obtain ⟨woc0, woc1, woc2, woc3, woc4, woc5, woc6, woz0, woz1, woz2, hE⟩ := Hwr.out
              have wrc0 : wr.cell? ⟨w.heap.size, 0, none⟩ = some (.int .i64 W) := (hEi.facts.1 _ 0 woz0).trans woc0
              have wrc1 : wr.cell? ⟨w.heap.size, 1, none⟩ = some (.int .i64 H) := (hEi.facts.1 _ 1 woz0).trans woc1
              have wrc2 : wr.cell? ⟨w.heap.size, 2, none⟩ = some (.slice A l.length c) := (hEi.facts.1 _ 2 woz0).trans woc2
              have wrz0 : w.heap.size < wr.heap.size := hEi.facts.2.2 _ woz0
              have wrc3 : wr.cell? ⟨w.heap.size + 1, 0, none⟩ = some (.int .i64 a0) := (hEi.facts.1 _ 0 woz1).trans woc3
              have wrc4 : wr.cell? ⟨w.heap.size + 1, 1, none⟩ = some (.int .i64 a1) := (hEi.facts.1 _ 1 woz1).trans woc4
              have wrz1 : w.heap.size + 1 < wr.heap.size := hEi.facts.2.2 _ woz1
              have wrc5 : wr.cell? ⟨w.heap.size + 1 + 1, 0, none⟩ = some (.int .i64 p0) := (hEi.facts.1 _ 0 woz2).trans woc5
              have wrc6 : wr.cell? ⟨w.heap.size + 1 + 1, 1, none⟩ = some (.int .i64 p1) := (hEi.facts.1 _ 1 woz2).trans woc6
              have wrz2 : w.heap.size + 1 + 1 < wr.heap.size := hEi.facts.2.2 _ woz2
              clear woc0 woc1 woc2 woc3 woc4 woc5 woc6 woz0 woz1 woz2
              obtain ⟨b, off, rfl, hb, e0, e1⟩ := R2.at_ (HR.out.ext ((Ew2.trans hE).trans hEi)) hlt
              by_cases hjk : j < k
              · have hjl : j < l.length := by omega
                obtain ⟨b', off', hA, hb', e2, e3⟩ := R2.at_ (HR.out.ext ((Ew2.trans hE).trans hEi)) hjl
                injection hA with hA
                injection hA with hA1 hA2 _
                subst hA1 hA2
                by_cases hf : fresh l k j = true
                · by_cases hx : l[j].1 = l[k].1
                  · by_cases hy : l[j].2 = l[k].2
                    · have hn := hide (fresh_hit hlt hjl (Prod.ext hx hy))
                      go_wp2
                      go_quiet (fail)
                      go_wp2
                      go_roundw
                      case rel => exact ⟨j + 1, by omega, by go_num, by rw [hn.out], by repeat (first | exact kE | exact Ext.refl _ | apply Ext.alloc | apply Ext.drewN | apply Ext.drew | apply Ext.set0 | apply Ext.set1 | apply Ext.set2 | apply Ext.set3 | (refine Ext.setk ?_ (by omega) _) | (apply Ext.snoc; assumption))⟩
                      case measure => simp [intOf]; omega
                    · have hn := hide (fresh_on hlt hjl hf (fun e => hy (by rw [e])))
                      go_wp2
                      go_quiet (fail)
                      go_wp2
                      go_roundw
                      case rel => exact ⟨j + 1, by omega, by go_num, by rw [hn.out], by repeat (first | exact kE | exact Ext.refl _ | apply Ext.alloc | apply Ext.drewN | apply Ext.drew | apply Ext.set0 | apply Ext.set1 | apply Ext.set2 | apply Ext.set3 | (refine Ext.setk ?_ (by omega) _) | (apply Ext.snoc; assumption))⟩
                      case measure => simp [intOf]; omega
                  · have hn := hide (fresh_on hlt hjl hf (fun e => hx (by rw [e])))
                    go_wp2
                    go_quiet (fail)
                    go_wp2
                    go_roundw
                    case rel => exact ⟨j + 1, by omega, by go_num, by rw [hn.out], by repeat (first | exact kE | exact Ext.refl _ | apply Ext.alloc | apply Ext.drewN | apply Ext.drew | apply Ext.set0 | apply Ext.set1 | apply Ext.set2 | apply Ext.set3 | (refine Ext.setk ?_ (by omega) _) | (apply Ext.snoc; assumption))⟩
                    case measure => simp [intOf]; omega
                · have hf' : fresh l k j = false := by simpa using hf
                  have hn := hide (fresh_no hlt hf' hjl)
                  clear hf
                  go_wp2
                  go_quiet (fail)
                  go_wp2
                  go_roundw
                  case rel => exact ⟨j + 1, by omega, by go_num, by rw [hn.out], by repeat (first | exact kE | exact Ext.refl _ | apply Ext.alloc | apply Ext.drewN | apply Ext.drew | apply Ext.set0 | apply Ext.set1 | apply Ext.set2 | apply Ext.set3 | (refine Ext.setk ?_ (by omega) _) | (apply Ext.snoc; assumption))⟩
                  case measure => simp [intOf]; omega
              · obtain rfl : j = k := by omega
                by_cases hf : fresh l j j = true
                · have hm : ¬ l[j] ∈ l.take j := by rw [fresh_at hlt] at hf; simpa using hf
                  by_cases hv : lies l[j] (a0, a1) (p0, p1) = true
                  · go_wp2_with fail
                    go_region_held3 (fun w' => (∀ (q o : Nat), q < wr.heap.size → w'.cell? ⟨q, o, none⟩ = wr.cell? ⟨q, o, none⟩) ∧ Ext wr w') ((apply ExtS; repeat (first | exact kE | exact Ext.refl _ | apply Ext.alloc | apply Ext.drewN | apply Ext.drew | apply Ext.set0 | apply Ext.set1 | apply Ext.set2 | apply Ext.set3 | (refine Ext.setk ?_ (by omega) _) | (apply Ext.snoc; assumption)))) ((first | (go_at_call 56; refine (l21Inside_any _ _ _ _ _ _ _ (by omega) (by omega)).mono ?_; rintro e w5 ⟨rfl, hb5⟩)))
                    go_wp2
                    go_roundw
                    case rel => exact ⟨j + 1, by omega, by go_num, by rw [countTo_hit hlt hv hm]; try go_num, by repeat (first | exact kE | exact Ext.refl _ | apply Ext.alloc | apply Ext.drewN | apply Ext.drew | apply Ext.set0 | apply Ext.set1 | apply Ext.set2 | apply Ext.set3 | (refine Ext.setk ?_ (by omega) _) | (apply Ext.snoc; assumption))⟩
                    case measure => simp [intOf]; omega
                  · have hv' : lies l[j] (a0, a1) (p0, p1) = false := by simpa using hv
                    clear hv
                    go_wp2_with fail
                    go_region_held3 (fun w' => (∀ (q o : Nat), q < wr.heap.size → w'.cell? ⟨q, o, none⟩ = wr.cell? ⟨q, o, none⟩) ∧ Ext wr w') ((apply ExtS; repeat (first | exact kE | exact Ext.refl _ | apply Ext.alloc | apply Ext.drewN | apply Ext.drew | apply Ext.set0 | apply Ext.set1 | apply Ext.set2 | apply Ext.set3 | (refine Ext.setk ?_ (by omega) _) | (apply Ext.snoc; assumption)))) ((first | (go_at_call 56; refine (l21Inside_any _ _ _ _ _ _ _ (by omega) (by omega)).mono ?_; rintro e w5 ⟨rfl, hb5⟩)))
                    go_wp2
                    go_roundw
                    case rel => exact ⟨j + 1, by omega, by go_num, by rw [countTo_out hlt hv']; try go_num, by repeat (first | exact kE | exact Ext.refl _ | apply Ext.alloc | apply Ext.drewN | apply Ext.drew | apply Ext.set0 | apply Ext.set1 | apply Ext.set2 | apply Ext.set3 | (refine Ext.setk ?_ (by omega) _) | (apply Ext.snoc; assumption))⟩
                    case measure => simp [intOf]; omega
                · have hf' : fresh l j j = false := by simpa using hf
                  have hm : l[j] ∈ l.take j := by rw [fresh_at hlt] at hf'; simpa using hf'
                  clear hf
                  go_wp2_with fail
                  apply wp_region_RL 11 66 (by kernel_rfl) (by kernel_rfl) (by kernel_rfl) (by kernel_rfl) (by kernel_rfl) (by kernel_rfl) rfl [fun v _ => v = _, fun v _ => v = _, fun v _ => v = _, fun v _ => v = _, fun v _ => v = _, fun v _ => v = _, fun v _ => v = _, fun v _ => v = _, fun v _ => v = _, fun v _ => v = _, fun v _ => v = _] rfl ⟨stab_eq _, stab_eq _, stab_eq _, stab_eq _, stab_eq _, stab_eq _, stab_eq _, stab_eq _, stab_eq _, stab_eq _, stab_eq _, trivial⟩ ?Xhop ?Xfin
                  case Xhop =>
                    intro a w' hE hA
                    have hc := hE.facts.1
                    have hz := hE.facts.2.2
                    refine ⟨⟨⟨⟨⟨⟨⟨⟨⟨⟨⟨trivial, ?_⟩, ?_⟩, ?_⟩, ?_⟩, ?_⟩, ?_⟩, ?_⟩, ?_⟩, ?_⟩, ?_⟩, ?_⟩
                    · intro hp
                      have s9 := hA 9 (by rfl)
                      simp [sl] at s9
                      clear hp
                      refine wpOp_of_list rfl rfl ?_
                      go_wp2_with fail
                      exact ⟨_, rfl, rfl, (by repeat (first | exact kE | exact Ext.refl _ | apply Ext.alloc | apply Ext.drewN | apply Ext.drew | apply Ext.set0 | apply Ext.set1 | apply Ext.set2 | apply Ext.set3 | (refine Ext.setk ?_ (by omega) _) | (apply Ext.snoc; assumption)))⟩
                    · intro hp
                      have s52 := hp 0 (by rfl)
                      change a.tmps.getD 52 undef = _ at s52
                      simp at s52
                      clear hp
                      refine wpOp_of_list rfl rfl ?_
                      go_wp2_with fail
                      exact ⟨_, rfl, rfl, (by repeat (first | exact kE | exact Ext.refl _ | apply Ext.alloc | apply Ext.drewN | apply Ext.drew | apply Ext.set0 | apply Ext.set1 | apply Ext.set2 | apply Ext.set3 | (refine Ext.setk ?_ (by omega) _) | (apply Ext.snoc; assumption)))⟩
                    · intro hp
                      have sg := hp 1 (by rfl)
                      exact wpOp_skipR rfl (wanted_no rfl (yielded_at rfl sg) rfl) rfl
                    · intro hp
                      have sg := hp 1 (by rfl)
                      exact wpOp_skipR rfl (wanted_no rfl (yielded_at rfl sg) rfl) rfl
                    · intro hp
                      have sg := hp 1 (by rfl)
                      exact wpOp_skipR rfl (wanted_no rfl (yielded_at rfl sg) rfl) rfl
                    · intro hp
                      have sg := hp 1 (by rfl)
                      exact wpOp_skipR rfl (wanted_no rfl (yielded_at rfl sg) rfl) rfl
                    · intro hp
                      have sg := hp 1 (by rfl)
                      exact wpOp_skipR rfl (wanted_no rfl (yielded_at rfl sg) rfl) rfl
                    · intro hp
                      have sg := hp 1 (by rfl)
                      exact wpOp_skipR rfl (wanted_no rfl (yielded_at rfl sg) rfl) rfl
                    · intro hp
                      have sg := hp 1 (by rfl)
                      exact wpOp_skipR rfl (wanted_no rfl (yielded_at rfl sg) rfl) rfl
                    · intro hp
                      have sg := hp 1 (by rfl)
                      exact wpOp_skipR rfl (wanted_no rfl (yielded_at rfl sg) rfl) rfl
                    · intro hp
                      have s53 := hp 1 (by rfl)
                      change a.tmps.getD 53 undef = _ at s53
                      simp at s53
                      have s61 := hp 9 (by rfl)
                      change a.tmps.getD 61 undef = _ at s61
                      simp at s61
                      clear hp
                      refine wpOp_of_list rfl rfl ?_
                      go_wp2_with fail
                      exact ⟨_, rfl, rfl, (by repeat (first | exact kE | exact Ext.refl _ | apply Ext.alloc | apply Ext.drewN | apply Ext.drew | apply Ext.set0 | apply Ext.set1 | apply Ext.set2 | apply Ext.set3 | (refine Ext.setk ?_ (by omega) _) | (apply Ext.snoc; assumption)))⟩
                  case Xfin =>
                    intro X w' hE hp
                    obtain ⟨⟨⟨⟨⟨⟨⟨⟨⟨⟨⟨_, h0⟩, h1⟩, h2⟩, h3⟩, h4⟩, h5⟩, h6⟩, h7⟩, h8⟩, h9⟩, h10⟩ := hp
                    change X 0 = _ at h0
                    change X 1 = _ at h1
                    change X 2 = _ at h2
                    change X 3 = _ at h3
                    change X 4 = _ at h4
                    change X 5 = _ at h5
                    change X 6 = _ at h6
                    change X 7 = _ at h7
                    change X 8 = _ at h8
                    change X 9 = _ at h9
                    change X 10 = _ at h10
                    simp only [List.drop_succ_cons, List.drop_nil]
                    refine wpList_nil ?_
                    go_simp
                    go_wp2
                    go_roundw
                    case rel => exact ⟨j + 1, by omega, by go_num, by rw [countTo_seen hlt hm]; try go_num, by repeat (first | exact kE | exact Ext.refl _ | apply Ext.alloc | apply Ext.drewN | apply Ext.drew | apply Ext.set0 | apply Ext.set1 | apply Ext.set2 | apply Ext.set3 | (refine Ext.setk ?_ (by omega) _) | (apply Ext.snoc; assumption))⟩
                    case measure => simp [intOf]; omega
          · go_wp2
            go_ret
            obtain rfl : k = l.length := by omega
            exact ⟨ret_int (by simp [spots, countOk, h1, h2, h3]), by repeat (first | exact kE | exact Ext.refl _ | apply Ext.alloc | apply Ext.drewN | apply Ext.drew | apply Ext.set0 | apply Ext.set1 | apply Ext.set2 | apply Ext.set3 | (refine Ext.setk ?_ (by omega) _) | (apply Ext.snoc; assumption))⟩
      · go_enter Try.func24, Try.ntmps24
        go_wp2_with (first | (go_at_call 17; refine (sFlawedOk_any W H l A c _ hl (Rds.ext HR.out (by repeat (first | exact kE | exact Ext.refl _ | apply Ext.alloc | apply Ext.drewN | apply Ext.drew | apply Ext.set0 | apply Ext.set1 | apply Ext.set2 | apply Ext.set3 | (refine Ext.setk ?_ (by omega) _) | (apply Ext.snoc; assumption))))).mono ?_; rintro e w2 ⟨rfl, hb2⟩; obtain ⟨hc2, hf2, _⟩ := hb2.facts; have hs2 := hb2.size; (try simp only [World.size_alloc] at hs2); have hz2_0 : w.heap.size < w2.heap.size := (by omega); have hz2_1 : w.heap.size + 1 < w2.heap.size := (by omega); have hz2_2 : w.heap.size + 1 + 1 < w2.heap.size := (by omega)) | (go_at_call 49; refine (l01In_any _ _ _ _).mono ?_; rintro e w' ⟨rfl, rfl⟩))
        go_ret
        exact ⟨ret_int (by simp [spots, countOk, h3]), by repeat (first | exact kE | exact Ext.refl _ | apply Ext.alloc | apply Ext.drewN | apply Ext.drew | apply Ext.set0 | apply Ext.set1 | apply Ext.set2 | apply Ext.set3 | (refine Ext.setk ?_ (by omega) _) | (apply Ext.snoc; assumption))⟩
    · go_enter Try.func24, Try.ntmps24
      go_wp2_with (first | (go_at_call 17; refine (sFlawedOk_any W H l A c _ hl (Rds.ext HR.out (by repeat (first | exact kE | exact Ext.refl _ | apply Ext.alloc | apply Ext.drewN | apply Ext.drew | apply Ext.set0 | apply Ext.set1 | apply Ext.set2 | apply Ext.set3 | (refine Ext.setk ?_ (by omega) _) | (apply Ext.snoc; assumption))))).mono ?_; rintro e w2 ⟨rfl, hb2⟩; obtain ⟨hc2, hf2, _⟩ := hb2.facts; have hs2 := hb2.size; (try simp only [World.size_alloc] at hs2); have hz2_0 : w.heap.size < w2.heap.size := (by omega); have hz2_1 : w.heap.size + 1 < w2.heap.size := (by omega); have hz2_2 : w.heap.size + 1 + 1 < w2.heap.size := (by omega)) | (go_at_call 49; refine (l01In_any _ _ _ _).mono ?_; rintro e w' ⟨rfl, rfl⟩))
      go_ret
      exact ⟨ret_int (by simp [spots, countOk, h2]), by repeat (first | exact kE | exact Ext.refl _ | apply Ext.alloc | apply Ext.drewN | apply Ext.drew | apply Ext.set0 | apply Ext.set1 | apply Ext.set2 | apply Ext.set3 | (refine Ext.setk ?_ (by omega) _) | (apply Ext.snoc; assumption))⟩
  · go_enter Try.func24, Try.ntmps24
    go_wp2_with (first | (go_at_call 17; refine (sFlawedOk_any W H l A c _ hl (Rds.ext HR.out (by repeat (first | exact kE | exact Ext.refl _ | apply Ext.alloc | apply Ext.drewN | apply Ext.drew | apply Ext.set0 | apply Ext.set1 | apply Ext.set2 | apply Ext.set3 | (refine Ext.setk ?_ (by omega) _) | (apply Ext.snoc; assumption))))).mono ?_; rintro e w2 ⟨rfl, hb2⟩; obtain ⟨hc2, hf2, _⟩ := hb2.facts; have hs2 := hb2.size; (try simp only [World.size_alloc] at hs2); have hz2_0 : w.heap.size < w2.heap.size := (by omega); have hz2_1 : w.heap.size + 1 < w2.heap.size := (by omega); have hz2_2 : w.heap.size + 1 + 1 < w2.heap.size := (by omega)) | (go_at_call 49; refine (l01In_any _ _ _ _).mono ?_; rintro e w' ⟨rfl, rfl⟩))
    go_ret
    exact ⟨ret_int (by simp [spots, countOk, h1]), by repeat (first | exact kE | exact Ext.refl _ | apply Ext.alloc | apply Ext.drewN | apply Ext.drew | apply Ext.set0 | apply Ext.set1 | apply Ext.set2 | apply Ext.set3 | (refine Ext.setk ?_ (by omega) _) | (apply Ext.snoc; assumption))⟩
end Go.Proofs.Ytjibcmmnohjhkaa
