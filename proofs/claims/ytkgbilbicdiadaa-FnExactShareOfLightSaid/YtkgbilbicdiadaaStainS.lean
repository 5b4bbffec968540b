/- Walks of the helpers on lists of Stain. No condition but that a list has at most 1048576 elements. -/
import Derived.Test.YtkgbilbicdiadaaNodes
import Derived.Test.YtkgbilbicdiadaaLists
import Derived.Test.YtkgbilbicdiadaaStain
set_option linter.unusedSimpArgs false
set_option linter.unusedVariables false
namespace Go.Proofs.Ytkgbilbicdiadaa
open Go.RowKit
theorem szStainS_any (l : List P3) (A : Option Addr) (c : Nat) (left : Int) (w : World) (hl : l.length ≤ maxLen) (h0 : 0 ≤ left) (h1 : left ≤ 1048576) :
    Calls Try.prog 44 #[.slice A l.length c, .int .i64 left] w fun e w' => e = .returned (.int .i64 (szR l.length left)) ∧ w = w' := by
  unfold maxLen at hl
  by_cases h : left < l.length
  · go_enter Try.func44, Try.ntmps44
    go_wp2
    go_ret
    exact ⟨ret_int (by simp [szR, h]), rfl⟩
  · go_enter Try.func44, Try.ntmps44
    go_wp2
    go_ret
    exact ⟨ret_int (by unfold szR; rw [if_neg (by omega)]), rfl⟩
theorem stain_info : (Try.prog.info? 103).map (fun i => (i.zero, i.size, i.bytes)) = some (some (.agg #[.int .i64 0, .int .i64 0, .int .i64 0]), 3, 24) := by kernel_rfl
theorem toStainS_any (l : List P3) (A : Option Addr) (c : Nat) (w : World) (hl : l.length ≤ 1048576) (hr : R3 w A l) :
   Calls Try.prog 46 #[.slice A l.length c] w fun e w' => ∃ g, e = .returned (.slice (some ⟨g, 0, none⟩) l.length l.length) ∧ w'.ownsRow w.heap.size 103 3 (.slice (some ⟨g, 0, none⟩) l.length l.length) l.length (enc3 l) ∧ Ext w w' := by
  obtain ⟨i0, hi, hz0, hz1, hz2⟩ := info_parts stain_info
  have HR := hide hr
  clear hr
  go_enter Try.func46, Try.ntmps46
  go_wp2_with (at_make; refine wpList_make_full _ rfl _ _ 56 rfl w.heap.size 103 i0 (.agg #[.int .i64 0, .int .i64 0, .int .i64 0]) 3 Try.underlying56 hi hz0 hz1 .i64 .i64 l.length l.length l.length rfl rfl rfl rfl (by rw [hz2]; omega) (by unfold maxLen; omega) (Nat.le_refl _) ?_; intro w1 hown hgrow)
  have HE := hide (grown_ext hgrow)
  have HO := hide hown
  clear hgrow hi hz0 hz1 hz2 hown
  go_loopw [4] (fun i wr => ∃ k : Nat, k ≤ l.length ∧ i = .int .i64 k ∧ (∃ xs, wr.ownsRow w.heap.size 103 3 (.slice (some ⟨w.heap.size, 0, none⟩) l.length l.length) l.length xs ∧ xs.take (k * 3) = enc3 (l.take k)) ∧ Ext w wr) (fun i _ => l.length - (intOf i).toNat)
  case atStart => exact ⟨0, Nat.zero_le _, rfl, ⟨_, HO.out, by simp [enc3]⟩, HE.out⟩
  case round =>
    obtain ⟨k, hk, rfl, ⟨xs, hown1, hx⟩, hE1⟩ := hrel
    have HX := hide hx
    clear HO HE hx
    by_cases hlt : k < l.length
    · obtain ⟨b, off, rfl, hb, hc0, hc1, hc2⟩ := R3.at_ (Rds.ext HR.out hE1) hlt
      have HO1 := hide hown1
      have hx1 : xs.length = l.length * 3 := hown1.1
      have HL := hide hx1
      clear hown1 hx1
      go_wp2_with fail
      refine (toStain_any _ _ _ _).mono ?_; rintro e w2 ⟨rfl, hb2⟩; obtain ⟨hc2, hf2, _⟩ := hb2.facts; have hs2 := hb2.size; (try simp only [World.size_alloc] at hs2)
      have ho2 := own_ext HO1.out hb2
      obtain ⟨v0, hd0⟩ := own_cell ho2 (k * 3) (by omega)
      have hf0 := ho2.frozenAt (k * 3)
      obtain ⟨v1, hd1⟩ := own_cell ho2 (k * 3 + 1) (by omega)
      have hf1 := ho2.frozenAt (k * 3 + 1)
      obtain ⟨v2, hd2⟩ := own_cell ho2 (k * 3 + 2) (by omega)
      have hf2 := ho2.frozenAt (k * 3 + 2)
      have HO2 := hide ho2
      clear ho2
      go_wp2_with fail
      go_roundw
      case rel =>
        refine ⟨k + 1, by omega, by go_num, ⟨_, ((((((HO2.out).stored (k * 3) _).1).stored (k * 3 + 1) _).1).stored (k * 3 + 2) _).1, ?_⟩, by repeat (first | exact kE | exact Ext.refl _ | apply Ext.alloc | apply Ext.drewN | apply Ext.drew | apply Ext.set0 | apply Ext.set1 | apply Ext.set2 | apply Ext.set3 | (refine Ext.setk ?_ (by omega) _) | (apply Ext.snoc; assumption))⟩
        rw [take_set3 _ _ _ _ _ (by have := HL.out; omega), HX.out, enc3_take_succ l k hlt]
      case measure => simp [intOf]; omega
    · have hkl : k = l.length := by omega
      subst hkl
      go_wp2
      go_ret
      have hx := HX.out
      rw [List.take_of_length_le (by rw [hown1.1]; omega), List.take_of_length_le (by omega)] at hx
      rw [hx] at hown1
      exact ⟨_, rfl, hown1, hE1⟩
theorem eq3Stain_any (a b c x y z : Int) (w : World) : Calls Try.prog 113 #[.agg #[.int .i64 a, .int .i64 b, .int .i64 c], .agg #[.int .i64 x, .int .i64 y, .int .i64 z]] w fun e w' => e = .returned (.bool (eq3 a b c x y z)) ∧ Ext w w' := by
  go_enter Try.func113, Try.ntmps113
  go_wp2
  all_goals (go_ret; exact ⟨ret_bool (by simp_all [eq3]), by repeat (first | exact kE | exact Ext.refl _ | apply Ext.alloc | apply Ext.drewN | apply Ext.drew | apply Ext.set0 | apply Ext.set1 | apply Ext.set2 | apply Ext.set3 | (refine Ext.setk ?_ (by omega) _) | (apply Ext.snoc; assumption))⟩)
theorem eqStainS_any (l m : List P3) (A B : Option Addr) (c d : Nat) (w : World) (hl : l.length ≤ 1048576) (hm : m.length ≤ 1048576) (hr : R3 w A l) (hr' : R3 w B m) :
   Calls Try.prog 48 #[.slice A l.length c, .slice B m.length d] w fun e w' => e = .returned (.bool (decide (l = m))) ∧ Ext w w' := by
  have HR := hide hr
  have HR' := hide hr'
  clear hr hr'
  by_cases hlm : l.length = m.length
  · have hne : ((l.length : Int) != (m.length : Int)) = false := by rw [bne_eq_false_iff_eq]; omega
    have HL := hide hlm
    clear hlm
    go_enter Try.func48, Try.ntmps48
    go_wp2
    go_loopw [5] (fun i wr => ∃ k : Nat, k ≤ l.length ∧ i = .int .i64 k ∧ Hid (l.take k = m.take k) ∧ Ext w wr) (fun i _ => l.length - (intOf i).toNat)
    case atStart => exact ⟨0, Nat.zero_le _, rfl, hide (by simp), Ext.refl _⟩
    case round =>
      obtain ⟨k, hk, rfl, hp, hE⟩ := hrel
      by_cases hlt : k < l.length
      · have hltm : k < m.length := by rw [← HL.out]; exact hlt
        obtain ⟨b, off, rfl, hb, hc0, hc1, hc2⟩ := R3.at_ (Rds.ext HR.out hE) hlt
        obtain ⟨b', off', rfl, hb', hc0', hc1', hc2'⟩ := R3.at_ (Rds.ext HR'.out hE) hltm
        by_cases hx : l[k] = m[k]
        · have hv : eq3 l[k].1 l[k].2.1 l[k].2.2 m[k].1 m[k].2.1 m[k].2.2 = true := by rw [hx]; simp [eq3]
          have HX := hide hx
          clear hx
          go_wp2_with fail
          go_region_held3 (fun w' => (∀ (q o : Nat), q < wr.heap.size → w'.cell? ⟨q, o, none⟩ = wr.cell? ⟨q, o, none⟩) ∧ Ext wr w') ((apply ExtS; repeat (first | exact kE | exact Ext.refl _ | apply Ext.alloc | apply Ext.drewN | apply Ext.drew | apply Ext.set0 | apply Ext.set1 | apply Ext.set2 | apply Ext.set3 | (refine Ext.setk ?_ (by omega) _) | (apply Ext.snoc; assumption)))) ((first | (go_at_call 113; refine (eq3Stain_any _ _ _ _ _ _ _).mono ?_; rintro e w1 ⟨rfl, hb1⟩)))
          go_wp2
          go_roundw
          case rel => exact ⟨k + 1, by omega, by go_num, hide (by rw [List.take_succ_eq_append_getElem hlt, List.take_succ_eq_append_getElem hltm, hp.out, HX.out]), by repeat (first | exact kE | exact Ext.refl _ | apply Ext.alloc | apply Ext.drewN | apply Ext.drew | apply Ext.set0 | apply Ext.set1 | apply Ext.set2 | apply Ext.set3 | (refine Ext.setk ?_ (by omega) _) | (apply Ext.snoc; assumption))⟩
          case measure => simp [intOf]; omega
        · have hv : eq3 l[k].1 l[k].2.1 l[k].2.2 m[k].1 m[k].2.1 m[k].2.2 = false := by
            rw [Bool.eq_false_iff]
            intro h
            rw [eq3_iff] at h
            exact hx (Prod.ext h.1 (Prod.ext h.2.1 h.2.2))
          have HX := hide hx
          clear hx
          go_wp2_with fail
          go_region_held3 (fun w' => (∀ (q o : Nat), q < wr.heap.size → w'.cell? ⟨q, o, none⟩ = wr.cell? ⟨q, o, none⟩) ∧ Ext wr w') ((apply ExtS; repeat (first | exact kE | exact Ext.refl _ | apply Ext.alloc | apply Ext.drewN | apply Ext.drew | apply Ext.set0 | apply Ext.set1 | apply Ext.set2 | apply Ext.set3 | (refine Ext.setk ?_ (by omega) _) | (apply Ext.snoc; assumption)))) ((first | (go_at_call 113; refine (eq3Stain_any _ _ _ _ _ _ _).mono ?_; rintro e w1 ⟨rfl, hb1⟩)))
          go_wp2
          go_ret
          exact ⟨ret_bool (by rw [eq_comm, decide_eq_false_iff_not]; intro h; subst h; exact HX.out rfl), by repeat (first | exact kE | exact Ext.refl _ | apply Ext.alloc | apply Ext.drewN | apply Ext.drew | apply Ext.set0 | apply Ext.set1 | apply Ext.set2 | apply Ext.set3 | (refine Ext.setk ?_ (by omega) _) | (apply Ext.snoc; assumption))⟩
      · go_wp2
        go_ret
        exact ⟨ret_bool (by rw [eq_comm, decide_eq_true_eq]; have h := hp.out; rwa [List.take_of_length_le (by omega), List.take_of_length_le (by have := HL.out; omega)] at h), hE⟩
  · have hne : ((l.length : Int) != (m.length : Int)) = true := by rw [bne_iff_ne]; omega
    go_enter Try.func48, Try.ntmps48
    go_wp2
    go_ret
    exact ⟨ret_bool (by rw [eq_comm, decide_eq_false_iff_not]; intro h; exact hlm (by rw [h])), Ext.refl _⟩
end Go.Proofs.Ytkgbilbicdiadaa
