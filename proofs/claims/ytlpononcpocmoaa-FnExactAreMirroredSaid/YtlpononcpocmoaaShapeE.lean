/- Walks of AreAlike and AreMirrored. No condition but that a list has at most 1048576 elements. -/
import Derived.Test.YtlpononcpocmoaaShapeD
set_option linter.unusedSimpArgs false
set_option linter.unusedVariables false
namespace Go.Proofs.Ytlpononcpocmoaa
open Go.RowKit

def turnN (l : List P2) : Nat → List P2
  | 0 => l
  | k + 1 => turnV (turnN l k)
theorem turnN_length (l : List P2) (h : l.length ≤ 1048576) : ∀ k, (turnN l k).length ≤ 1048576
  | 0 => h
  | k + 1 => turnV_length _ (turnN_length l h k)
def alikeB (l m : List P2) : Bool := (List.range 4).any fun k => sameB l (turnN m (k + 1))
theorem alike_yes {l m : List P2} {k : Nat} (hk : k < 4) (h : sameB l (turnN m (k + 1)) = true) : alikeB l m = true := List.any_eq_true.2 ⟨k, List.mem_range.2 hk, h⟩
theorem alike_no {l m : List P2} (h : ∀ k, k < 4 → sameB l (turnN m (k + 1)) = false) : alikeB l m = false := by
  unfold alikeB
  rw [List.any_eq_false]
  intro k hk
  rw [h k (List.mem_range.1 hk)]
  simp
def mirroredB (l m : List P2) : Bool := alikeB l (mirrorV m)

theorem AreAlike_any (l : List P2) (A : Option Addr) (c : Nat) (m : List P2) (B : Option Addr) (d : Nat) (w : World) (hl : l.length ≤ 1048576) (hm : m.length ≤ 1048576) (hr : R2 w A l) (hr' : R2 w B m) :
   Calls Try.prog 23 #[.slice A l.length c, .slice B m.length d] w fun e w' => e = .returned (.bool (alikeB l m)) ∧ Ext w w' := by
  have HR := hide hr
  have HR' := hide hr'
  clear hr hr'
  go_enter Try.func23, Try.ntmps23
  go_wp2_with fail
  go_loopw [1, 5] (fun t i wr => ∃ k : Nat, k ≤ 4 ∧ i = .int .i64 k ∧ (∃ B d, t = .slice B (turnN m k).length d ∧ R2 wr B (turnN m k)) ∧ Hid (∀ j, j < k → sameB l (turnN m (j + 1)) = false) ∧ Ext w wr) (fun _ i _ => 4 - (intOf i).toNat)
  case atStart => exact ⟨0, by omega, rfl, ⟨B, d, rfl, HR'.out⟩, hide (fun j hj => absurd hj (Nat.not_lt_zero j)), Ext.refl _⟩
  case round =>
    obtain ⟨k, hk, rfl, ⟨B, d, rfl, hb⟩, hp, hE⟩ := hrel
    have HB := hide hb
    clear hb
    have HE := hide hE
    by_cases hlt : k < 4
    · go_wp2_with fail
      refine (TurnShape_any (turnN m k) _ _ _ (turnN_length m hm k) HB.out).mono ?_; rintro e w1 ⟨B1, d1, rfl, ho, hb1⟩
      have HO := hide ho
      clear ho
      go_wp2_with fail
      refine (SameShape_any l _ _ (turnV (turnN m k)) _ _ _ hl (turnN_length m hm (k + 1)) (HR.out.ext (hE.trans hb1)) (Rds.of_own HO.out)).mono ?_; rintro e w2 ⟨rfl, hb2⟩
      have HE2 := hide (hE.trans (hb1.trans hb2))
      have HO2 := hide ((Rds.of_own HO.out).ext hb2)
      clear hE hb1 hb2
      by_cases hs : sameB l (turnV (turnN m k)) = true
      · have HS := hide hs
        go_wp2_with fail
        go_ret
        exact ⟨ret_bool (alike_yes (m := m) hlt HS.out).symm, HE2.out⟩
      · have hs' : sameB l (turnV (turnN m k)) = false := by simpa using hs
        have HS := hide hs'
        clear hs
        go_wp2_with fail
        clear hs'
        go_roundw
        case rel => exact ⟨k + 1, by omega, by go_num, ⟨_, _, rfl, HO2.out⟩, hide (fun j hj => by
          by_cases e : j = k
          · rw [e]; exact HS.out
          · exact hp.out j (by omega)), HE2.out⟩
        case measure => simp [intOf]; omega
    · obtain rfl : k = 4 := by omega
      go_wp2_with fail
      go_ret
      exact ⟨ret_bool (alike_no hp.out).symm, HE.out⟩
theorem AreMirrored_any (l : List P2) (A : Option Addr) (c : Nat) (m : List P2) (B : Option Addr) (d : Nat) (w : World) (hl : l.length ≤ 1048576) (hm : m.length ≤ 1048576) (hr : R2 w A l) (hr' : R2 w B m) :
   Calls Try.prog 25 #[.slice A l.length c, .slice B m.length d] w fun e w' => e = .returned (.bool (mirroredB l m)) ∧ Ext w w' := by
  have HR := hide hr
  have HR' := hide hr'
  clear hr hr'
  go_enter Try.func25, Try.ntmps25
  go_wp2_with fail
  refine (MirrorShape_any m _ _ _ hm HR'.out).mono ?_; rintro e w1 ⟨B1, d1, rfl, ho, hb1⟩
  have HO := hide ho
  clear ho
  go_wp2_with fail
  refine (AreAlike_any l _ _ (mirrorV m) _ _ _ hl (mirrorV_length m hm) (HR.out.ext hb1) (Rds.of_own HO.out)).mono ?_; rintro e w2 ⟨rfl, hb2⟩
  have HE2 := hide (hb1.trans hb2)
  clear hb1 hb2
  go_wp2
  go_ret
  exact ⟨ret_bool rfl, HE2.out⟩
theorem sAreAlike_any (l : List P2) (A : Option Addr) (c : Nat) (m : List P2) (B : Option Addr) (d : Nat) (w : World) (hl : l.length ≤ 1048576) (hm : m.length ≤ 1048576) (hr : R2 w A l) (hr' : R2 w B m) :
   Calls Try.prog 22 #[.slice A l.length c, .slice B m.length d] w fun e w' => e = .returned (.bool (alikeB l m)) ∧ Ext w w' := by
  have HR := hide hr
  have HR' := hide hr'
  clear hr hr'
  go_enter Try.func22, Try.ntmps22
  go_wp2_with fail
  go_loopw [1, 5] (fun t i wr => ∃ k : Nat, k ≤ 4 ∧ i = .int .i64 k ∧ (∃ B d, t = .slice B (turnN m k).length d ∧ R2 wr B (turnN m k)) ∧ Hid (∀ j, j < k → sameB l (turnN m (j + 1)) = false) ∧ Ext w wr) (fun _ i _ => 4 - (intOf i).toNat)
  case atStart => exact ⟨0, by omega, rfl, ⟨B, d, rfl, HR'.out⟩, hide (fun j hj => absurd hj (Nat.not_lt_zero j)), Ext.refl _⟩
  case round =>
    obtain ⟨k, hk, rfl, ⟨B, d, rfl, hb⟩, hp, hE⟩ := hrel
    have HB := hide hb
    clear hb
    have HE := hide hE
    by_cases hlt : k < 4
    · go_wp2_with fail
      refine (sTurnShape_any (turnN m k) _ _ _ (turnN_length m hm k) HB.out).mono ?_; rintro e w1 ⟨B1, d1, rfl, ho, hb1⟩
      have HO := hide ho
      clear ho
      go_wp2_with fail
      refine (sSameShape_any l _ _ (turnV (turnN m k)) _ _ _ hl (turnN_length m hm (k + 1)) (HR.out.ext (hE.trans hb1)) (Rds.of_own HO.out)).mono ?_; rintro e w2 ⟨rfl, hb2⟩
      have HE2 := hide (hE.trans (hb1.trans hb2))
      have HO2 := hide ((Rds.of_own HO.out).ext hb2)
      clear hE hb1 hb2
      by_cases hs : sameB l (turnV (turnN m k)) = true
      · have HS := hide hs
        go_wp2_with fail
        go_ret
        exact ⟨ret_bool (alike_yes (m := m) hlt HS.out).symm, HE2.out⟩
      · have hs' : sameB l (turnV (turnN m k)) = false := by simpa using hs
        have HS := hide hs'
        clear hs
        go_wp2_with fail
        clear hs'
        go_roundw
        case rel => exact ⟨k + 1, by omega, by go_num, ⟨_, _, rfl, HO2.out⟩, hide (fun j hj => by
          by_cases e : j = k
          · rw [e]; exact HS.out
          · exact hp.out j (by omega)), HE2.out⟩
        case measure => simp [intOf]; omega
    · obtain rfl : k = 4 := by omega
      go_wp2_with fail
      go_ret
      exact ⟨ret_bool (alike_no hp.out).symm, HE.out⟩
theorem sAreMirrored_any (l : List P2) (A : Option Addr) (c : Nat) (m : List P2) (B : Option Addr) (d : Nat) (w : World) (hl : l.length ≤ 1048576) (hm : m.length ≤ 1048576) (hr : R2 w A l) (hr' : R2 w B m) :
   Calls Try.prog 24 #[.slice A l.length c, .slice B m.length d] w fun e w' => e = .returned (.bool (mirroredB l m)) ∧ Ext w w' := by
  have HR := hide hr
  have HR' := hide hr'
  clear hr hr'
  go_enter Try.func24, Try.ntmps24
  go_wp2_with fail
  refine (sMirrorShape_any m _ _ _ hm HR'.out).mono ?_; rintro e w1 ⟨B1, d1, rfl, ho, hb1⟩
  have HO := hide ho
  clear ho
  go_wp2_with fail
  refine (sAreAlike_any l _ _ (mirrorV m) _ _ _ hl (mirrorV_length m hm) (HR.out.ext hb1) (Rds.of_own HO.out)).mono ?_; rintro e w2 ⟨rfl, hb2⟩
  have HE2 := hide (hb1.trans hb2)
  clear hb1 hb2
  go_wp2
  go_ret
  exact ⟨ret_bool rfl, HE2.out⟩
end Go.Proofs.Ytlpononcpocmoaa
