/- Walks of ColorStains. No condition but that a list has at most 1048576 elements. -/
import Derived.Test.YtabgcpoaepafjaaGreatWithS
set_option linter.unusedSimpArgs false
set_option linter.unusedVariables false
namespace Go.Proofs.YtabgcpoaepafjaaGreat
open Go.RowKit

def colorOk (cs : List Int) (t : List P3) : Bool := t.all okS && cs.all (fun i => inR i 0 ((t.length : Int) - 1))
def pickS (t : List P3) (i : Int) : P3 := t.getD i.toNat (0, 0, 0)
def colorV (cs : List Int) (t : List P3) : List P3 := if colorOk cs t then cs.map (pickS t) else []
theorem colorV_length (cs : List Int) (t : List P3) (h : cs.length ≤ 1048576) : (colorV cs t).length ≤ 1048576 := by
  unfold colorV
  split
  · simpa using h
  · exact Nat.zero_le _
theorem picks_succ (cs : List Int) (t : List P3) {k : Nat} (h : k < cs.length) : (cs.take (k + 1)).map (pickS t) = (cs.take k).map (pickS t) ++ [pickS t cs[k]] := by
  rw [List.take_succ_eq_append_getElem h]; simp only [List.map_append, List.map_cons, List.map_nil]
theorem enc3_snoc (l : List P3) (p : P3) : enc3 (l ++ [p]) = enc3 l ++ [.int .i64 p.1, .int .i64 p.2.1, .int .i64 p.2.2] := by rw [enc3_append]; rfl
theorem one3 (a b c : Int) : ∀ u ∈ [Value.int .i64 a, Value.int .i64 b, Value.int .i64 c], u.oneCell' = true := by intro u hu; simp at hu; rcases hu with rfl | rfl | rfl <;> rfl
theorem pickS_at {t : List P3} {j : Nat} (h : j < t.length) : pickS t (j : Int) = t[j] := by simp [pickS, h]
theorem color_bad1 {cs : List Int} {t : List P3} {k : Nat} (hk : k < t.length) (h : okS t[k] = false) : colorOk cs t = false := by
  unfold colorOk
  rw [all_false_at t okS k hk h, Bool.false_and]
theorem color_bad2 {cs : List Int} {t : List P3} {k : Nat} (hk : k < cs.length) (h : inR cs[k] 0 ((t.length : Int) - 1) = false) : colorOk cs t = false := by
  unfold colorOk
  rw [all_false_at cs _ k hk h, Bool.and_false]

set_option maxHeartbeats 1000000 in
theorem ColorStains_any (cs : List Int) (A : Option Addr) (c : Nat) (t : List P3) (B : Option Addr) (d : Nat) (w : World) (hl : cs.length ≤ 1048576) (ht : t.length ≤ 1048576) (hr : RI w A cs) (hr' : R3 w B t) :
    Calls Tryz.prog 24 #[.slice A cs.length c, .slice B t.length d] w fun e w' => ∃ Ar cr, e = .returned (.tuple #[.slice Ar (colorV cs t).length cr, .bool (colorOk cs t)]) ∧ w'.ownsRow w.heap.size 50 3 (.slice Ar (colorV cs t).length cr) (colorV cs t).length (enc3 (colorV cs t)) ∧ Ext w w' := by
  obtain ⟨i0, hi, hz0, hz1, hz2⟩ := info_parts stain_info
  have HR := hide hr
  have HR' := hide hr'
  clear hr hr'
  have HN : Hid (colorOk cs t = false → colorV cs t = []) := hide (fun h => by unfold colorV; rw [h, if_neg (by simp)])
  go_enter Tryz.func24, Tryz.ntmps24
  go_wp2_with fail
  go_loopw [13] (fun i wr => ∃ k : Nat, k ≤ t.length ∧ i = .int .i64 k ∧ Hid ((t.take k).all okS = true) ∧ Ext w wr) (fun i _ => t.length - (intOf i).toNat)
  case atStart => exact ⟨0, Nat.zero_le _, rfl, hide (by simp), Ext.refl _⟩
  case round =>
    obtain ⟨k, hk, rfl, hp, hE⟩ := hrel
    have HE := hide hE
    by_cases hlt : k < t.length
    · obtain ⟨b, off, rfl, hb, e0, e1, e2⟩ := R3.at_ (HR'.out.ext hE) hlt
      have HA := hide (all_take_succ t okS k hlt)
      go_wp2_with fail
      refine (StainOk_any _ _ _ _).mono ?_; rintro e w5 ⟨rfl, hb5⟩
      have hE5 : Ext w w5 := hE.trans (((Ext.refl _).alloc _).trans hb5)
      have HE5 := hide hE5
      clear hb5 hE
      have HE := HE5
      by_cases hs : stainOk t[k].1 t[k].2.1 t[k].2.2 = true
      · have HS := hide hs
        go_wp2_with fail
        go_roundw
        case rel => exact ⟨k + 1, by omega, by go_num, hide (by rw [HA.out, hp.out]; exact HS.out), HE5.out⟩
        case measure => simp [intOf]; omega
      · have hs' : stainOk t[k].1 t[k].2.1 t[k].2.2 = false := by simpa using hs
        have HS := hide (show okS t[k] = false from hs')
        clear hs
        have HO0 : Hid (colorOk cs t = false) := hide (color_bad1 hlt HS.out)
        have HL0 : Hid (colorV cs t = []) := hide (HN.out HO0.out)
        go_wp2_with fail
        go_ret2
        exact ⟨none, 0, (by first | (rw [HO0.out, HL0.out]; done) | (rw [HO0.out, HL0.out]; rfl)), by rw [HL0.out]; exact World.ownsRow_nil _ _ _ _, by repeat (first | exact kE | exact Ext.refl _ | apply Ext.alloc | apply Ext.drewN | apply Ext.drew | apply Ext.set0 | apply Ext.set1 | apply Ext.set2 | apply Ext.set3 | (refine Ext.setk ?_ (by omega) _) | (apply Ext.snoc; assumption))⟩
    · have hall : t.all okS = true := by have := hp.out; rwa [List.take_of_length_le (by omega)] at this
      have HALL := hide hall
      clear hall hE
      obtain ⟨w1, rfl⟩ : ∃ w1 : World, w1 = wr := ⟨_, rfl⟩
      go_wp2_with fail
      go_loopw [8, 23] (fun v i wr => ∃ k : Nat, k ≤ cs.length ∧ i = .int .i64 k ∧ Hid ((cs.take k).all (fun i => inR i 0 ((t.length : Int) - 1)) = true) ∧ wr.ownsRow w1.heap.size 50 3 v k (enc3 ((cs.take k).map (pickS t))) ∧ Ext w1 wr) (fun _ i _ => cs.length - (intOf i).toNat)
      case atStart => exact ⟨0, Nat.zero_le _, rfl, hide (by simp), World.ownsRow_nil _ _ _ _, Ext.refl _⟩
      case round =>
        obtain ⟨k, hk, rfl, hq, hown, hE⟩ := hrel
        have HO := hide hown
        have HEW := hide hE
        have hsz := hE.size
        have kE := HE.out.trans hE
        clear hown hE
        by_cases hlt : k < cs.length
        · obtain ⟨b1, off1, rfl, hb1, f0⟩ := RI.at_ (HR.out.ext kE) hlt
          have HA := hide (all_take_succ cs (fun i => inR i 0 ((t.length : Int) - 1)) k hlt)
          have HPK := hide (picks_succ cs t hlt)
          by_cases hc : inR cs[k] 0 ((t.length : Int) - 1) = true
          · have BC := inR_true hc
            have HC := hide hc
            obtain ⟨x, hx⟩ : ∃ x, x = cs[k] := ⟨_, rfl⟩
            rw [← hx] at f0 hc BC
            obtain ⟨j, rfl⟩ := Int.eq_ofNat_of_zero_le BC.1
            have hj : j < t.length := by omega
            have hjb : (j : Int) < (t.length : Int) := by omega
            obtain ⟨b2, off2, rfl, hb2, g0, g1, g2⟩ := R3.at_ (HR'.out.ext kE) hj
            have HPJ : Hid (pickS t cs[k] = t[j]) := hide (by rw [← hx]; exact pickS_at hj)
            clear hx
            go_wp2_with (first | (go_at_call 67; refine (within_any _ _ _ _).mono ?_; rintro e w' ⟨rfl, rfl⟩) | (at_builtin; refine wpList_append_own _ rfl _ _ 40 rfl w1.heap.size 50 i0 (.agg #[.int .i64 0, .int .i64 0, .int .i64 0]) 3 24 Tryz.underlying40 hi hz0 hz1 hz2 rfl (by decide) u8 k (enc3 ((cs.take k).map (pickS t))) rfl (own_ext HO.out (by clear kE; repeat (first | exact kE | exact Ext.refl _ | apply Ext.alloc | apply Ext.drewN | apply Ext.drew | apply Ext.set0 | apply Ext.set1 | apply Ext.set2 | apply Ext.set3 | (refine Ext.setk ?_ (by omega) _) | (apply Ext.snoc; assumption)))) ⟨wr.heap.size, 0, none⟩ 1 1 [.int .i64 t[j].1, .int .i64 t[j].2.1, .int .i64 t[j].2.2] rfl rfl (news_new wr #[.int .i64 t[j].1, .int .i64 t[j].2.1, .int .i64 t[j].2.2] 50) (one3 _ _ _) (by unfold maxLen; omega) (by omega) (by first | (simp; done) | (simp; omega)) ?_; intro v' w4 hown4 hgrow4 hnil))
            have E4 := Ext.grown (show Ext w1 _ from (HEW.out.alloc _)) hgrow4 (own_base HO.out (Nat.le_refl _))
            have HO4 := hide hown4
            clear hown4 hgrow4 hnil
            go_roundw
            case rel => exact ⟨k + 1, by omega, by go_num, hide (by rw [HA.out, hq.out]; exact HC.out), by rw [HPK.out, HPJ.out, enc3_snoc]; exact HO4.out, E4⟩
            case measure => simp [intOf]; omega
          · have hc' : inR cs[k] 0 ((t.length : Int) - 1) = false := by simpa using hc
            have HC := hide hc'
            clear hc
            go_wp2_with (first | (go_at_call 67; refine (within_any _ _ _ _).mono ?_; rintro e w' ⟨rfl, rfl⟩))
            have HO0 : Hid (colorOk cs t = false) := hide (color_bad2 hlt HC.out)
            have HL0 : Hid (colorV cs t = []) := hide (HN.out HO0.out)
            go_ret2
            exact ⟨none, 0, (by first | (rw [HO0.out, HL0.out]; done) | (rw [HO0.out, HL0.out]; rfl)), by rw [HL0.out]; exact World.ownsRow_nil _ _ _ _, by repeat (first | exact kE | exact Ext.refl _ | apply Ext.alloc | apply Ext.drewN | apply Ext.drew | apply Ext.set0 | apply Ext.set1 | apply Ext.set2 | apply Ext.set3 | (refine Ext.setk ?_ (by omega) _) | (apply Ext.snoc; assumption))⟩
        · have hcl : k = cs.length := by omega
          have hall2 : cs.all (fun i => inR i 0 ((t.length : Int) - 1)) = true := by have := hq.out; rwa [List.take_of_length_le (by omega)] at this
          have HOK : Hid (colorOk cs t = true) := hide (by unfold colorOk; rw [HALL.out, hall2]; rfl)
          have HV : Hid (colorV cs t = cs.map (pickS t)) := hide (by unfold colorV; rw [HOK.out, if_pos (by rfl)])
          clear hall2
          subst hcl
          obtain ⟨Ar, cr, rfl, _, _, _⟩ := own_slice HO.out
          have HLN : Hid ((colorV cs t).length = cs.length) := hide (by rw [HV.out]; simp)
          go_wp2_with fail
          go_ret2
          refine ⟨Ar, cr, (by first | (rw [HOK.out, HLN.out]; done) | (rw [HOK.out, HLN.out]; rfl)), ?_, kE⟩
          have ho := HO.out
          rw [List.take_of_length_le (Nat.le_refl _)] at ho
          rw [HLN.out, HV.out]
          exact own_mono ho HE.out.size
end Go.Proofs.YtabgcpoaepafjaaGreat
