/- The walks of the two look-ups of a number in a list. No condition but that a list has at most 1048576 elements. -/
import Derived.Test.YtabgcpoaepafjaaGreatMem
set_option linter.unusedSimpArgs false
set_option linter.unusedVariables false
namespace Go.Proofs.YtabgcpoaepafjaaGreat
open Go.RowKit

def hasL (xs : List Int) (x : Int) : Bool := xs.contains x
theorem hasL_iff {xs : List Int} {x : Int} : hasL xs x = true ↔ x ∈ xs := by simp [hasL]
theorem hasL_nat {l : List Nat} {f : Nat} : hasL (l.map fun x : Nat => (x : Int)) (f : Int) = l.contains f := by
  rw [Bool.eq_iff_iff, hasL_iff]
  simp only [List.mem_map, List.contains_eq_mem, decide_eq_true_eq]
  exact ⟨fun ⟨a, h, e⟩ => by rw [← Int.ofNat_inj.1 e]; exact h, fun h => ⟨f, h, rfl⟩⟩
theorem has_step {xs : List Int} {x : Int} {k : Nat} (hk : k < xs.length) (h : (xs.take k).contains x = false) (hne : xs[k] ≠ x) : (xs.take (k + 1)).contains x = false := by
  rw [List.take_succ_eq_append_getElem hk]
  simp only [List.contains_eq_mem, decide_eq_false_iff_not, List.mem_append, List.mem_singleton] at h ⊢
  rintro (q | q)
  · exact h q
  · exact hne q.symm
theorem has_hit {xs : List Int} {x : Int} {k : Nat} (hk : k < xs.length) (he : xs[k] = x) : hasL xs x = true := by
  simp only [hasL, List.contains_eq_mem, decide_eq_true_eq]
  rw [← he]
  exact List.getElem_mem hk
theorem has_end {xs : List Int} {x : Int} {k : Nat} (hk : ¬ k < xs.length) (h : (xs.take k).contains x = false) : hasL xs x = false := by
  unfold hasL
  rw [List.take_of_length_le (by omega)] at h
  exact h
theorem l06Has_any (xs : List Int) (A : Option Addr) (c : Nat) (x : Int) (w : World) (hl : xs.length ≤ 1048576) (hr : RI w A xs) :
    Calls Tryz.prog 79 #[.slice A xs.length c, .int .i64 x] w fun e w' => e = .returned (.bool (hasL xs x)) ∧ w = w' := by
  have HR := hide hr
  clear hr
  go_enter Tryz.func79, Tryz.ntmps79
  go_wp2_with fail
  go_loopw [5] (fun i wr => ∃ k : Nat, k ≤ xs.length ∧ i = .int .i64 k ∧ Hid ((xs.take k).contains x = false) ∧ Hid (wr = w)) (fun i _ => xs.length - (intOf i).toNat)
  case atStart => exact ⟨0, Nat.zero_le _, rfl, hide (by simp), hide rfl⟩
  case round =>
    obtain ⟨k, hk, rfl, HN, HW⟩ := hrel
    obtain rfl := HW.out
    by_cases hlt : k < xs.length
    · have hlz : (k : Int) < (xs.length : Int) := by omega
      obtain ⟨b, off, rfl, hb, hc⟩ := RI.at_ HR.out hlt
      have HST := hide (fun h => has_step hlt HN.out h)
      have HHI := hide (fun (h : xs[k] = x) => has_hit hlt h)
      obtain ⟨y, hy⟩ : ∃ y, xs[k] = y := ⟨_, rfl⟩
      rw [hy] at hc
      have HST := hide (fun h => HST.out (by rw [hy]; exact h))
      have HHI := hide (fun h => HHI.out (by rw [hy]; exact h))
      clear hy
      by_cases he : y = x
      · have HV := hide (HHI.out he)
        have q1 : (y == x) = true := by simp [he]
        clear he
        go_wp2_with fail
        go_ret
        exact ⟨ret_bool HV.out.symm, rfl⟩
      · have HV := hide (HST.out he)
        have q1 : (y == x) = false := by simp [he]
        clear he
        go_wp2_with fail
        go_roundw
        case rel => exact ⟨k + 1, by omega, by go_num, HV, by first | exact hide rfl | exact hide trivial⟩
        case measure => simp [intOf]; omega
    · have HV := hide (has_end hlt HN.out)
      obtain rfl : k = xs.length := by omega
      go_wp2_with fail
      go_ret
      exact ⟨ret_bool HV.out.symm, rfl⟩
theorem hasInt_any (xs : List Int) (A : Option Addr) (c : Nat) (x : Int) (w : World) (hl : xs.length ≤ 1048576) (hr : RI w A xs) :
    Calls Tryz.prog 92 #[.slice A xs.length c, .int .i64 x] w fun e w' => e = .returned (.bool (hasL xs x)) ∧ w = w' := by
  have HR := hide hr
  clear hr
  go_enter Tryz.func92, Tryz.ntmps92
  go_wp2_with fail
  go_loopw [9] (fun i wr => ∃ k : Nat, k ≤ xs.length ∧ i = .int .i64 k ∧ Hid ((xs.take k).contains x = false) ∧ Hid (wr = w)) (fun i _ => xs.length - (intOf i).toNat)
  case atStart => exact ⟨0, Nat.zero_le _, rfl, hide (by simp), hide rfl⟩
  case round =>
    obtain ⟨k, hk, rfl, HN, HW⟩ := hrel
    obtain rfl := HW.out
    by_cases hlt : k < xs.length
    · have hlz : (k : Int) < (xs.length : Int) := by omega
      obtain ⟨b, off, rfl, hb, hc⟩ := RI.at_ HR.out hlt
      have HST := hide (fun h => has_step hlt HN.out h)
      have HHI := hide (fun (h : xs[k] = x) => has_hit hlt h)
      obtain ⟨y, hy⟩ : ∃ y, xs[k] = y := ⟨_, rfl⟩
      rw [hy] at hc
      have HST := hide (fun h => HST.out (by rw [hy]; exact h))
      have HHI := hide (fun h => HHI.out (by rw [hy]; exact h))
      clear hy
      by_cases he : y = x
      · have HV := hide (HHI.out he)
        have q1 : (y == x) = true := by simp [he]
        clear he
        go_wp2_with fail
        go_ret
        exact ⟨ret_bool HV.out.symm, rfl⟩
      · have HV := hide (HST.out he)
        have q1 : (y == x) = false := by simp [he]
        clear he
        go_wp2_with fail
        go_roundw
        case rel => exact ⟨k + 1, by omega, by go_num, HV, by first | exact hide rfl | exact hide trivial⟩
        case measure => simp [intOf]; omega
    · have HV := hide (has_end hlt HN.out)
      obtain rfl : k = xs.length := by omega
      go_wp2_with fail
      go_ret
      exact ⟨ret_bool HV.out.symm, rfl⟩
end Go.Proofs.YtabgcpoaepafjaaGreat
