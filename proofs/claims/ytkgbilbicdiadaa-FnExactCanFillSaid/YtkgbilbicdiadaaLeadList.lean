/- Walks of the helpers on lists of Lead. No condition but that a list has at most 1048576 elements. -/
import Derived.Test.YtkgbilbicdiadaaNodes
import Derived.Test.YtkgbilbicdiadaaLists
set_option linter.unusedSimpArgs false
set_option linter.unusedVariables false
namespace Go.Proofs.Ytkgbilbicdiadaa
open Go.RowKit
theorem toLead_any (a b : Int) (w : World) : Calls Try.prog 146 #[.agg #[.int .i64 a, .int .i64 b]] w fun e w' => e = .returned (.agg #[.int .i64 a, .int .i64 b]) ∧ Ext w w' := by
  go_enter Try.func146, Try.ntmps146
  go_wp2
  go_returns
  exact ⟨rfl, by repeat (first | exact kE | exact Ext.refl _ | apply Ext.alloc | apply Ext.drewN | apply Ext.drew | apply Ext.set0 | apply Ext.set1 | apply Ext.set2 | apply Ext.set3 | (refine Ext.setk ?_ (by omega) _) | (apply Ext.snoc; assumption))⟩
theorem szLeadS_any (l : List P2) (A : Option Addr) (c : Nat) (left : Int) (w : World) (hl : l.length ≤ maxLen) (h0 : 0 ≤ left) (h1 : left ≤ 1048576) :
    Calls Try.prog 97 #[.slice A l.length c, .int .i64 left] w fun e w' => e = .returned (.int .i64 (szR l.length left)) ∧ w = w' := by
  unfold maxLen at hl
  by_cases h : left < l.length
  · go_enter Try.func97, Try.ntmps97
    go_wp2
    go_ret
    exact ⟨ret_int (by simp [szR, h]), rfl⟩
  · go_enter Try.func97, Try.ntmps97
    go_wp2
    go_ret
    exact ⟨ret_int (by unfold szR; rw [if_neg (by omega)]), rfl⟩
theorem lead_info : (Try.prog.info? 84).map (fun i => (i.zero, i.size, i.bytes)) = some (some (.agg #[.int .i64 0, .int .i64 0]), 2, 16) := by kernel_rfl
theorem toLeadS_any (l : List P2) (A : Option Addr) (c : Nat) (w : World) (hl : l.length ≤ 1048576) (hr : R2 w A l) :
   Calls Try.prog 100 #[.slice A l.length c] w fun e w' => ∃ g, e = .returned (.slice (some ⟨g, 0, none⟩) l.length l.length) ∧ w'.ownsRow w.heap.size 84 2 (.slice (some ⟨g, 0, none⟩) l.length l.length) l.length (enc2 l) ∧ Ext w w' := by
  obtain ⟨i0, hi, hz0, hz1, hz2⟩ := info_parts lead_info
  have HR := hide hr
  clear hr
  go_enter Try.func100, Try.ntmps100
  go_wp2_with (at_make; refine wpList_make_full _ rfl _ _ 25 rfl w.heap.size 84 i0 (.agg #[.int .i64 0, .int .i64 0]) 2 Try.underlying25 hi hz0 hz1 .i64 .i64 l.length l.length l.length rfl rfl rfl rfl (by rw [hz2]; omega) (by unfold maxLen; omega) (Nat.le_refl _) ?_; intro w1 hown hgrow)
  have HE := hide (grown_ext hgrow)
  have HO := hide hown
  clear hgrow hi hz0 hz1 hz2 hown
  go_loopw [4] (fun i wr => ∃ k : Nat, k ≤ l.length ∧ i = .int .i64 k ∧ (∃ xs, wr.ownsRow w.heap.size 84 2 (.slice (some ⟨w.heap.size, 0, none⟩) l.length l.length) l.length xs ∧ xs.take (k * 2) = enc2 (l.take k)) ∧ Ext w wr) (fun i _ => l.length - (intOf i).toNat)
  case atStart => exact ⟨0, Nat.zero_le _, rfl, ⟨_, HO.out, by simp [enc2]⟩, HE.out⟩
  case round =>
    obtain ⟨k, hk, rfl, ⟨xs, hown1, hx⟩, hE1⟩ := hrel
    have HX := hide hx
    clear HO HE hx
    by_cases hlt : k < l.length
    · obtain ⟨b, off, rfl, hb, hc0, hc1⟩ := R2.at_ (Rds.ext HR.out hE1) hlt
      have HO1 := hide hown1
      have hx1 : xs.length = l.length * 2 := hown1.1
      have HL := hide hx1
      clear hown1 hx1
      go_wp2_with fail
      refine (toLead_any _ _ _).mono ?_; rintro e w2 ⟨rfl, hb2⟩; obtain ⟨hc2, hf2, _⟩ := hb2.facts; have hs2 := hb2.size; (try simp only [World.size_alloc] at hs2)
      have ho2 := own_ext HO1.out hb2
      obtain ⟨v0, hd0⟩ := own_cell ho2 (k * 2) (by omega)
      have hf0 := ho2.frozenAt (k * 2)
      obtain ⟨v1, hd1⟩ := own_cell ho2 (k * 2 + 1) (by omega)
      have hf1 := ho2.frozenAt (k * 2 + 1)
      have HO2 := hide ho2
      clear ho2
      go_wp2_with fail
      go_roundw
      case rel =>
        refine ⟨k + 1, by omega, by go_num, ⟨_, ((((HO2.out).stored (k * 2) _).1).stored (k * 2 + 1) _).1, ?_⟩, by repeat (first | exact kE | exact Ext.refl _ | apply Ext.alloc | apply Ext.drewN | apply Ext.drew | apply Ext.set0 | apply Ext.set1 | apply Ext.set2 | apply Ext.set3 | (refine Ext.setk ?_ (by omega) _) | (apply Ext.snoc; assumption))⟩
        rw [take_set2 _ _ _ _ (by have := HL.out; omega), HX.out, enc2_take_succ l k hlt]
      case measure => simp [intOf]; omega
    · have hkl : k = l.length := by omega
      subst hkl
      go_wp2
      go_ret
      have hx := HX.out
      rw [List.take_of_length_le (by rw [hown1.1]; omega), List.take_of_length_le (by omega)] at hx
      rw [hx] at hown1
      exact ⟨_, rfl, hown1, hE1⟩
theorem eq2Lead_any (a b x y : Int) (w : World) : Calls Try.prog 147 #[.agg #[.int .i64 a, .int .i64 b], .agg #[.int .i64 x, .int .i64 y]] w fun e w' => e = .returned (.bool (eq2 a b x y)) ∧ Ext w w' := by
  go_enter Try.func147, Try.ntmps147
  go_wp2
  all_goals (go_ret; exact ⟨ret_bool (by simp_all [eq2]), by repeat (first | exact kE | exact Ext.refl _ | apply Ext.alloc | apply Ext.drewN | apply Ext.drew | apply Ext.set0 | apply Ext.set1 | apply Ext.set2 | apply Ext.set3 | (refine Ext.setk ?_ (by omega) _) | (apply Ext.snoc; assumption))⟩)
theorem eqLeadS_any (l m : List P2) (A B : Option Addr) (c d : Nat) (w : World) (hl : l.length ≤ 1048576) (hm : m.length ≤ 1048576) (hr : R2 w A l) (hr' : R2 w B m) :
   Calls Try.prog 104 #[.slice A l.length c, .slice B m.length d] w fun e w' => e = .returned (.bool (decide (l = m))) ∧ Ext w w' := by
  have HR := hide hr
  have HR' := hide hr'
  clear hr hr'
  by_cases hlm : l.length = m.length
  · have hne : ((l.length : Int) != (m.length : Int)) = false := by rw [bne_eq_false_iff_eq]; omega
    have HL := hide hlm
    clear hlm
    go_enter Try.func104, Try.ntmps104
    go_wp2
    go_loopw [5] (fun i wr => ∃ k : Nat, k ≤ l.length ∧ i = .int .i64 k ∧ Hid (l.take k = m.take k) ∧ Ext w wr) (fun i _ => l.length - (intOf i).toNat)
    case atStart => exact ⟨0, Nat.zero_le _, rfl, hide (by simp), Ext.refl _⟩
    case round =>
      obtain ⟨k, hk, rfl, hp, hE⟩ := hrel
      by_cases hlt : k < l.length
      · have hltm : k < m.length := by rw [← HL.out]; exact hlt
        obtain ⟨b, off, rfl, hb, hc0, hc1⟩ := R2.at_ (Rds.ext HR.out hE) hlt
        obtain ⟨b', off', rfl, hb', hc0', hc1'⟩ := R2.at_ (Rds.ext HR'.out hE) hltm
        by_cases hx : l[k] = m[k]
        · have hv : eq2 l[k].1 l[k].2 m[k].1 m[k].2 = true := by rw [hx]; simp [eq2]
          have HX := hide hx
          clear hx
          go_wp2_with fail
          go_region_held3 (fun w' => (∀ (q o : Nat), q < wr.heap.size → w'.cell? ⟨q, o, none⟩ = wr.cell? ⟨q, o, none⟩) ∧ Ext wr w') ((apply ExtS; repeat (first | exact kE | exact Ext.refl _ | apply Ext.alloc | apply Ext.drewN | apply Ext.drew | apply Ext.set0 | apply Ext.set1 | apply Ext.set2 | apply Ext.set3 | (refine Ext.setk ?_ (by omega) _) | (apply Ext.snoc; assumption)))) ((first | (go_at_call 147; refine (eq2Lead_any _ _ _ _ _).mono ?_; rintro e w1 ⟨rfl, hb1⟩)))
          go_wp2
          go_roundw
          case rel => exact ⟨k + 1, by omega, by go_num, hide (by rw [List.take_succ_eq_append_getElem hlt, List.take_succ_eq_append_getElem hltm, hp.out, HX.out]), by repeat (first | exact kE | exact Ext.refl _ | apply Ext.alloc | apply Ext.drewN | apply Ext.drew | apply Ext.set0 | apply Ext.set1 | apply Ext.set2 | apply Ext.set3 | (refine Ext.setk ?_ (by omega) _) | (apply Ext.snoc; assumption))⟩
          case measure => simp [intOf]; omega
        · have hv : eq2 l[k].1 l[k].2 m[k].1 m[k].2 = false := by
            rw [Bool.eq_false_iff]
            intro h
            rw [eq2_iff] at h
            exact hx (Prod.ext h.1 h.2)
          have HX := hide hx
          clear hx
          go_wp2_with fail
          go_region_held3 (fun w' => (∀ (q o : Nat), q < wr.heap.size → w'.cell? ⟨q, o, none⟩ = wr.cell? ⟨q, o, none⟩) ∧ Ext wr w') ((apply ExtS; repeat (first | exact kE | exact Ext.refl _ | apply Ext.alloc | apply Ext.drewN | apply Ext.drew | apply Ext.set0 | apply Ext.set1 | apply Ext.set2 | apply Ext.set3 | (refine Ext.setk ?_ (by omega) _) | (apply Ext.snoc; assumption)))) ((first | (go_at_call 147; refine (eq2Lead_any _ _ _ _ _).mono ?_; rintro e w1 ⟨rfl, hb1⟩)))
          go_wp2
          go_ret
          exact ⟨ret_bool (by rw [eq_comm, decide_eq_false_iff_not]; intro h; subst h; exact HX.out rfl), by repeat (first | exact kE | exact Ext.refl _ | apply Ext.alloc | apply Ext.drewN | apply Ext.drew | apply Ext.set0 | apply Ext.set1 | apply Ext.set2 | apply Ext.set3 | (refine Ext.setk ?_ (by omega) _) | (apply Ext.snoc; assumption))⟩
      · go_wp2
        go_ret
        exact ⟨ret_bool (by rw [eq_comm, decide_eq_true_eq]; have h := hp.out; rwa [List.take_of_length_le (by omega), List.take_of_length_le (by have := HL.out; omega)] at h), hE⟩
  · have hne : ((l.length : Int) != (m.length : Int)) = true := by rw [bne_iff_ne]; omega
    go_enter Try.func104, Try.ntmps104
    go_wp2
    go_ret
    exact ⟨ret_bool (by rw [eq_comm, decide_eq_false_iff_not]; intro h; exact hlm (by rw [h])), Ext.refl _⟩
end Go.Proofs.Ytkgbilbicdiadaa
