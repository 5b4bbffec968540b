/- Walks of the functions on lists of numbers. No condition but that a list has at most 1048576 elements. -/
import Derived.Test.YtgddpeaoacmfnaaMem
set_option linter.unusedSimpArgs false
set_option linter.unusedVariables false
namespace Go.Proofs.Ytgddpeaoacmfnaa
open Go.RowKit


theorem int_info : (Try.prog.info? 3).map (fun i => (i.zero, i.size, i.bytes)) = some (some (.int .i64 0), 1, 8) := by kernel_rfl

theorem set_fill (l : List Int) (k : Nat) (h : k < l.length) : ((encI (l.take k)) ++ List.replicate (l.length - k) (Value.int .i64 0)).set k (.int .i64 l[k]) = encI (l.take (k + 1)) ++ List.replicate (l.length - (k + 1)) (Value.int .i64 0) := by
  have e : l.length - k = (l.length - (k + 1)) + 1 := by omega
  rw [e, List.replicate_succ, List.set_append, if_neg (by simp [encI]; omega), List.take_succ_eq_append_getElem h, encI_append]
  simp [encI, Nat.min_eq_left (Nat.le_of_lt h)]

theorem eqIntS_any (l m : List Int) (A B : Option Addr) (c d : Nat) (w : World) (hl : l.length ≤ 1048576) (hm : m.length ≤ 1048576) (hr : RI w A l) (hr' : RI w B m) :
   Calls Try.prog 16 #[.slice A l.length c, .slice B m.length d] w fun e w' => e = .returned (.bool (decide (l = m))) ∧ Ext w w' := by
  have HR := hide hr
  have HR' := hide hr'
  clear hr hr'
  by_cases hlm : l.length = m.length
  · have hne : ((l.length : Int) != (m.length : Int)) = false := by rw [bne_eq_false_iff_eq]; omega
    have HL := hide hlm
    clear hlm
    go_enter Try.func16, Try.ntmps16
    go_wp2
    go_loopw [5] (fun i wr => ∃ k : Nat, k ≤ l.length ∧ i = .int .i64 k ∧ Hid (l.take k = m.take k) ∧ ∃ nd, wr = w.drewN nd) (fun i _ => l.length - (intOf i).toNat)
    case atStart => exact ⟨0, Nat.zero_le _, rfl, hide (by simp), 0, rfl⟩
    case round =>
      obtain ⟨k, hk, rfl, hp, nd, rfl⟩ := hrel
      by_cases hlt : k < l.length
      · have hltm : k < m.length := by rw [← HL.out]; exact hlt
        obtain ⟨b, off, rfl, _, hcell⟩ := RI.at_ HR.out hlt
        obtain ⟨b', off', rfl, _, hcell'⟩ := RI.at_ HR'.out hltm
        by_cases hx : l[k] = m[k]
        · have hb : (l[k] != m[k]) = false := by rw [bne_eq_false_iff_eq]; exact hx
          have HX := hide hx
          clear hx
          go_wp2
          go_quiet (fail)
          go_wp2
          go_roundw
          case rel => exact ⟨k + 1, by omega, by go_num, hide (by rw [List.take_succ_eq_append_getElem hlt, List.take_succ_eq_append_getElem hltm, hp.out, HX.out]), _, rfl⟩
          case measure => simp [intOf]; omega
        · have hb : (l[k] != m[k]) = true := by rw [bne_iff_ne]; exact hx
          go_wp2
          go_quiet (fail)
          go_wp2
          go_ret
          exact ⟨ret_bool (by rw [eq_comm, decide_eq_false_iff_not]; intro h; subst h; exact hx rfl), by repeat (first | exact Ext.refl _ | apply Ext.drewN)⟩
      · go_wp2
        go_ret
        exact ⟨ret_bool (by rw [eq_comm, decide_eq_true_eq]; have h := hp.out; rwa [List.take_of_length_le (by omega), List.take_of_length_le (by have := HL.out; omega)] at h), by repeat (first | exact Ext.refl _ | apply Ext.drewN)⟩
  · have hne : ((l.length : Int) != (m.length : Int)) = true := by rw [bne_iff_ne]; omega
    go_enter Try.func16, Try.ntmps16
    go_wp2
    go_ret
    exact ⟨ret_bool (by rw [eq_comm, decide_eq_false_iff_not]; intro h; exact hlm (by rw [h])), Ext.refl _⟩

end Go.Proofs.Ytgddpeaoacmfnaa
