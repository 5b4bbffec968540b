/- Walks of the helpers on lists of nodes. No condition but that a list has at most 1048576 elements. -/
import Derived.Test.YtkgbilbicdiadaaMem
set_option linter.unusedSimpArgs false
set_option linter.unusedVariables false
namespace Go.Proofs.Ytkgbilbicdiadaa
open Go.RowKit

theorem ext_grown {w w' : World} (h : Ext w w') (row : Option Nat) : w.grownBy w' row := ⟨h.os, h.tape, h.output, h.size, fun k hk _ => h.block k hk⟩
theorem own_ext {w w' : World} {base n sz : Nat} {e : TypeId} {v : Value} {xs : List Value} (h : w.ownsRow base e sz v n xs) (hE : Ext w w') : w'.ownsRow base e sz v n xs := by
  rcases hv : v.ownBlock with _ | g
  · exact h.kept (ext_grown hE none) (.inl hv)
  · exact h.kept (ext_grown hE none) (.inr (by rw [hv]; simp))

theorem toNode_any (a b : Int) (w : World) : Calls Try.prog 127 #[.agg #[.int .i64 a, .int .i64 b]] w fun e w' => e = .returned (.agg #[.int .i64 a, .int .i64 b]) ∧ Ext w w' := by
  go_enter Try.func127, Try.ntmps127
  go_wp2
  go_returns
  exact ⟨rfl, by repeat (first | exact kE | exact Ext.refl _ | apply Ext.alloc | apply Ext.drewN | apply Ext.drew | apply Ext.set0 | apply Ext.set1 | apply Ext.set2 | apply Ext.set3 | (refine Ext.setk ?_ (by omega) _) | (apply Ext.snoc; assumption))⟩
def szR (n : Nat) (left : Int) : Int := if left < n then -1 else left - n
theorem szNodeS_any (l : List P2) (A : Option Addr) (c : Nat) (left : Int) (w : World) (hl : l.length ≤ maxLen) (h0 : 0 ≤ left) (h1 : left ≤ 1048576) :
    Calls Try.prog 66 #[.slice A l.length c, .int .i64 left] w fun e w' => e = .returned (.int .i64 (szR l.length left)) ∧ w = w' := by
  unfold maxLen at hl
  by_cases h : left < l.length
  · go_enter Try.func66, Try.ntmps66
    go_wp2
    go_ret
    exact ⟨ret_int (by simp [szR, h]), rfl⟩
  · go_enter Try.func66, Try.ntmps66
    go_wp2
    go_ret
    exact ⟨ret_int (by unfold szR; rw [if_neg (by omega)]), rfl⟩
theorem take_set2 (xs : List Value) (k : Nat) (a b : Value) (h : k * 2 + 1 < xs.length) : ((xs.set (k * 2) a).set (k * 2 + 1) b).take ((k + 1) * 2) = xs.take (k * 2) ++ [a, b] := by
  apply List.ext_getElem?
  intro j
  by_cases h1 : j < k * 2
  · rw [List.getElem?_take_of_lt (by omega), List.getElem?_set_ne (by omega), List.getElem?_set_ne (by omega), List.getElem?_append_left (by simp; omega), List.getElem?_take_of_lt h1]
  · by_cases h2 : j = k * 2
    · subst h2
      rw [List.getElem?_take_of_lt (by omega), List.getElem?_set_ne (by omega), List.getElem?_set_self (by omega), List.getElem?_append_right (by simp; omega)]
      simp [Nat.min_eq_left (show k * 2 ≤ xs.length by omega)]
    · by_cases h3 : j = k * 2 + 1
      · subst h3
        rw [List.getElem?_take_of_lt (by omega), List.getElem?_set_self (by simp; omega), List.getElem?_append_right (by simp; omega)]
        simp [Nat.min_eq_left (show k * 2 ≤ xs.length by omega)]
      · rw [List.getElem?_eq_none (by simp; omega), List.getElem?_eq_none (by simp; omega)]
theorem enc2_take_succ (l : List P2) (k : Nat) (h : k < l.length) : enc2 (l.take (k + 1)) = enc2 (l.take k) ++ [.int .i64 l[k].1, .int .i64 l[k].2] := by
  rw [List.take_succ_eq_append_getElem h, enc2_append]
  rfl
theorem node_info : (Try.prog.info? 79).map (fun i => (i.zero, i.size, i.bytes)) = some (some (.agg #[.int .i64 0, .int .i64 0]), 2, 16) := by kernel_rfl
theorem toNodeS_any (l : List P2) (A : Option Addr) (c : Nat) (w : World) (hl : l.length ≤ 1048576) (hr : R2 w A l) :
   Calls Try.prog 68 #[.slice A l.length c] w fun e w' => ∃ g, e = .returned (.slice (some ⟨g, 0, none⟩) l.length l.length) ∧ w'.ownsRow w.heap.size 79 2 (.slice (some ⟨g, 0, none⟩) l.length l.length) l.length (enc2 l) ∧ Ext w w' := by
  obtain ⟨i0, hi, hz0, hz1, hz2⟩ := info_parts node_info
  have HR := hide hr
  clear hr
  go_enter Try.func68, Try.ntmps68
  go_wp2_with (at_make; refine wpList_make_full _ rfl _ _ 24 rfl w.heap.size 79 i0 (.agg #[.int .i64 0, .int .i64 0]) 2 Try.underlying24 hi hz0 hz1 .i64 .i64 l.length l.length l.length rfl rfl rfl rfl (by rw [hz2]; omega) (by unfold maxLen; omega) (Nat.le_refl _) ?_; intro w1 hown hgrow)
  have HE := hide (grown_ext hgrow)
  have HO := hide hown
  clear hgrow hi hz0 hz1 hz2 hown
  go_loopw [4] (fun i wr => ∃ k : Nat, k ≤ l.length ∧ i = .int .i64 k ∧ (∃ xs, wr.ownsRow w.heap.size 79 2 (.slice (some ⟨w.heap.size, 0, none⟩) l.length l.length) l.length xs ∧ xs.take (k * 2) = enc2 (l.take k)) ∧ Ext w wr) (fun i _ => l.length - (intOf i).toNat)
  case atStart => exact ⟨0, Nat.zero_le _, rfl, ⟨_, HO.out, by simp [enc2]⟩, HE.out⟩
  case round =>
    obtain ⟨k, hk, rfl, ⟨xs, hown1, hx⟩, hE1⟩ := hrel
    have HX := hide hx
    clear HO HE hx
    by_cases hlt : k < l.length
    · obtain ⟨b, off, rfl, hb, hc0, hc1⟩ := R2.at_ (Rds.ext HR.out hE1) hlt
      have HO1 := hide hown1
      have hx1 : xs.length = l.length * 2 := hown1.1
      have HL := hide hx1
      clear hown1 hx1
      go_wp2_with fail
      refine (toNode_any _ _ _).mono ?_; rintro e w2 ⟨rfl, hb2⟩; obtain ⟨hc2, hf2, _⟩ := hb2.facts; have hs2 := hb2.size; (try simp only [World.size_alloc] at hs2)
      have ho2 := own_ext HO1.out hb2
      obtain ⟨v0, hd0⟩ := own_cell ho2 (k * 2) (by omega)
      obtain ⟨v1, hd1⟩ := own_cell ho2 (k * 2 + 1) (by omega)
      have hf0 := ho2.frozenAt (k * 2)
      have hf1 := ho2.frozenAt (k * 2 + 1)
      have HO2 := hide ho2
      clear ho2
      go_wp2_with fail
      go_roundw
      case rel =>
        refine ⟨k + 1, by omega, by go_num, ⟨_, ((HO2.out.stored (k * 2) _).1.stored (k * 2 + 1) _).1, ?_⟩, by repeat (first | exact kE | exact Ext.refl _ | apply Ext.alloc | apply Ext.drewN | apply Ext.drew | apply Ext.set0 | apply Ext.set1 | apply Ext.set2 | apply Ext.set3 | (refine Ext.setk ?_ (by omega) _) | (apply Ext.snoc; assumption))⟩
        rw [take_set2 _ _ _ _ (by have := HL.out; omega), HX.out, enc2_take_succ l k hlt]
      case measure => simp [intOf]; omega
    · have hkl : k = l.length := by omega
      subst hkl
      go_wp2
      go_ret
      have hx := HX.out
      rw [List.take_of_length_le (by rw [hown1.1]; omega), List.take_of_length_le (by omega)] at hx
      rw [hx] at hown1
      exact ⟨_, rfl, hown1, hE1⟩
def eq2 (a b x y : Int) : Bool := decide (a = x) && decide (b = y)
theorem eq2_iff (a b x y : Int) : eq2 a b x y = true ↔ a = x ∧ b = y := by simp [eq2]
theorem eqNode_any (a b x y : Int) (w : World) : Calls Try.prog 119 #[.agg #[.int .i64 a, .int .i64 b], .agg #[.int .i64 x, .int .i64 y]] w fun e w' => e = .returned (.bool (eq2 a b x y)) ∧ Ext w w' := by
  go_enter Try.func119, Try.ntmps119
  go_wp2
  all_goals (go_ret; exact ⟨ret_bool (by simp_all [eq2]), by repeat (first | exact kE | exact Ext.refl _ | apply Ext.alloc | apply Ext.drewN | apply Ext.drew | apply Ext.set0 | apply Ext.set1 | apply Ext.set2 | apply Ext.set3 | (refine Ext.setk ?_ (by omega) _) | (apply Ext.snoc; assumption))⟩)
theorem eqNodeS_any (l m : List P2) (A B : Option Addr) (c d : Nat) (w : World) (hl : l.length ≤ 1048576) (hm : m.length ≤ 1048576) (hr : R2 w A l) (hr' : R2 w B m) :
   Calls Try.prog 53 #[.slice A l.length c, .slice B m.length d] w fun e w' => e = .returned (.bool (decide (l = m))) ∧ Ext w w' := by
  have HR := hide hr
  have HR' := hide hr'
  clear hr hr'
  by_cases hlm : l.length = m.length
  · have hne : ((l.length : Int) != (m.length : Int)) = false := by rw [bne_eq_false_iff_eq]; omega
    have HL := hide hlm
    clear hlm
    go_enter Try.func53, Try.ntmps53
    go_wp2
    go_loopw [5] (fun i wr => ∃ k : Nat, k ≤ l.length ∧ i = .int .i64 k ∧ Hid (l.take k = m.take k) ∧ Ext w wr) (fun i _ => l.length - (intOf i).toNat)
    case atStart => exact ⟨0, Nat.zero_le _, rfl, hide (by simp), Ext.refl _⟩
    case round =>
      obtain ⟨k, hk, rfl, hp, hE⟩ := hrel
      by_cases hlt : k < l.length
      · have hltm : k < m.length := by rw [← HL.out]; exact hlt
        obtain ⟨b, off, rfl, hb, hc0, hc1⟩ := R2.at_ (Rds.ext HR.out hE) hlt
        obtain ⟨b', off', rfl, hb', hc0', hc1'⟩ := R2.at_ (Rds.ext HR'.out hE) hltm
        by_cases hx : l[k] = m[k]
        · have hv : eq2 l[k].1 l[k].2 m[k].1 m[k].2 = true := by rw [hx]; simp [eq2]
          have HX := hide hx
          clear hx
          go_wp2_with fail
          go_region_held3 (fun w' => (∀ (q o : Nat), q < wr.heap.size → w'.cell? ⟨q, o, none⟩ = wr.cell? ⟨q, o, none⟩) ∧ Ext wr w') ((apply ExtS; repeat (first | exact kE | exact Ext.refl _ | apply Ext.alloc | apply Ext.drewN | apply Ext.drew | apply Ext.set0 | apply Ext.set1 | apply Ext.set2 | apply Ext.set3 | (refine Ext.setk ?_ (by omega) _) | (apply Ext.snoc; assumption)))) ((first | (go_at_call 119; refine (eqNode_any _ _ _ _ _).mono ?_; rintro e w1 ⟨rfl, hb1⟩)))
          go_wp2
          go_roundw
          case rel => exact ⟨k + 1, by omega, by go_num, hide (by rw [List.take_succ_eq_append_getElem hlt, List.take_succ_eq_append_getElem hltm, hp.out, HX.out]), by repeat (first | exact kE | exact Ext.refl _ | apply Ext.alloc | apply Ext.drewN | apply Ext.drew | apply Ext.set0 | apply Ext.set1 | apply Ext.set2 | apply Ext.set3 | (refine Ext.setk ?_ (by omega) _) | (apply Ext.snoc; assumption))⟩
          case measure => simp [intOf]; omega
        · have hv : eq2 l[k].1 l[k].2 m[k].1 m[k].2 = false := by
            rw [Bool.eq_false_iff]
            intro h
            rw [eq2_iff] at h
            exact hx (Prod.ext h.1 h.2)
          have HX := hide hx
          clear hx
          go_wp2_with fail
          go_region_held3 (fun w' => (∀ (q o : Nat), q < wr.heap.size → w'.cell? ⟨q, o, none⟩ = wr.cell? ⟨q, o, none⟩) ∧ Ext wr w') ((apply ExtS; repeat (first | exact kE | exact Ext.refl _ | apply Ext.alloc | apply Ext.drewN | apply Ext.drew | apply Ext.set0 | apply Ext.set1 | apply Ext.set2 | apply Ext.set3 | (refine Ext.setk ?_ (by omega) _) | (apply Ext.snoc; assumption)))) ((first | (go_at_call 119; refine (eqNode_any _ _ _ _ _).mono ?_; rintro e w1 ⟨rfl, hb1⟩)))
          go_wp2
          go_ret
          exact ⟨ret_bool (by rw [eq_comm, decide_eq_false_iff_not]; intro h; subst h; exact HX.out rfl), by repeat (first | exact kE | exact Ext.refl _ | apply Ext.alloc | apply Ext.drewN | apply Ext.drew | apply Ext.set0 | apply Ext.set1 | apply Ext.set2 | apply Ext.set3 | (refine Ext.setk ?_ (by omega) _) | (apply Ext.snoc; assumption))⟩
      · go_wp2
        go_ret
        exact ⟨ret_bool (by rw [eq_comm, decide_eq_true_eq]; have h := hp.out; rwa [List.take_of_length_le (by omega), List.take_of_length_le (by have := HL.out; omega)] at h), hE⟩
  · have hne : ((l.length : Int) != (m.length : Int)) = true := by rw [bne_iff_ne]; omega
    go_enter Try.func53, Try.ntmps53
    go_wp2
    go_ret
    exact ⟨ret_bool (by rw [eq_comm, decide_eq_false_iff_not]; intro h; exact hlm (by rw [h])), Ext.refl _⟩
end Go.Proofs.Ytkgbilbicdiadaa
