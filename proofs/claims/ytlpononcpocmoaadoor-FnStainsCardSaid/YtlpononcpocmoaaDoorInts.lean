/- Walks of the functions on lists of numbers. No condition but that a list has at most 1048576 elements. -/
import Derived.Test.YtlpononcpocmoaaDoorMem
set_option linter.unusedSimpArgs false
set_option linter.unusedVariables false
namespace Go.Proofs.YtlpononcpocmoaaDoor
open Go.RowKit

theorem allWithin_any (l : List Int) (A : Option Addr) (c : Nat) (lo hi : Int) (w : World) (hl : l.length ≤ 1048576) (hr : RI w A l) :
   Calls Tryd.prog 22 #[.slice A l.length c, .int .i64 lo, .int .i64 hi] w fun e w' => e = .returned (.bool (l.all (inR · lo hi))) ∧ w = w' := by
  have HR := hide hr
  clear hr
  go_enter Tryd.func22, Tryd.ntmps22
  go_wp2
  go_loop [11] (fun i => ∃ k : Nat, k ≤ l.length ∧ i = .int .i64 k ∧ Hid ((l.take k).all (inR · lo hi) = true)) (fun i => l.length - (intOf i).toNat)
  case atStart => exact ⟨0, Nat.zero_le _, rfl, hide (by simp)⟩
  case round =>
    obtain ⟨k, hk, rfl, hp⟩ := hrel
    by_cases hlt : k < l.length
    · obtain ⟨b, off, rfl, _, hcell⟩ := RI.at_ HR.out hlt
      go_wp2_with (first | (go_at_call 20; refine (within_any _ _ _ _).mono ?_; rintro e w' ⟨rfl, rfl⟩))
      · have ht : (!inR l[k] lo hi) = true := by assumption
        go_ret
        exact ⟨ret_bool (all_false_at l (inR · lo hi) k hlt (by simpa using ht)).symm, rfl⟩
      · have ht : (!inR l[k] lo hi) = false := by assumption
        go_round
        case rel => exact ⟨k + 1, by omega, by go_num, hide (by rw [all_take_succ l _ k hlt, hp.out]; simpa using ht)⟩
        case measure => simp [intOf]; omega
    · go_wp2
      go_ret
      exact ⟨ret_bool (by rw [← all_of_take l _ k hlt, hp.out]), rfl⟩

theorem int_info : (Tryd.prog.info? 3).map (fun i => (i.zero, i.size, i.bytes)) = some (some (.int .i64 0), 1, 8) := by kernel_rfl

theorem set_fill (l : List Int) (k : Nat) (h : k < l.length) : ((encI (l.take k)) ++ List.replicate (l.length - k) (Value.int .i64 0)).set k (.int .i64 l[k]) = encI (l.take (k + 1)) ++ List.replicate (l.length - (k + 1)) (Value.int .i64 0) := by
  have e : l.length - k = (l.length - (k + 1)) + 1 := by omega
  rw [e, List.replicate_succ, List.set_append, if_neg (by simp [encI]; omega), List.take_succ_eq_append_getElem h, encI_append]
  simp [encI, Nat.min_eq_left (Nat.le_of_lt h)]


end Go.Proofs.YtlpononcpocmoaaDoor
