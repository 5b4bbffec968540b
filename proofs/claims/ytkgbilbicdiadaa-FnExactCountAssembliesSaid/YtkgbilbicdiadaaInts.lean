/- Walks of the functions on lists of numbers. No condition but that a list has at most 1048576 elements. -/
import Derived.Test.YtkgbilbicdiadaaMem
set_option linter.unusedSimpArgs false
set_option linter.unusedVariables false
namespace Go.Proofs.Ytkgbilbicdiadaa
open Go.RowKit

theorem allWithin_any (l : List Int) (A : Option Addr) (c : Nat) (lo hi : Int) (w : World) (hl : l.length ≤ 1048576) (hr : RI w A l) :
   Calls Try.prog 170 #[.slice A l.length c, .int .i64 lo, .int .i64 hi] w fun e w' => e = .returned (.bool (l.all (inR · lo hi))) ∧ w = w' := by
  have HR := hide hr
  clear hr
  go_enter Try.func170, Try.ntmps170
  go_wp2
  go_loop [11] (fun i => ∃ k : Nat, k ≤ l.length ∧ i = .int .i64 k ∧ Hid ((l.take k).all (inR · lo hi) = true)) (fun i => l.length - (intOf i).toNat)
  case atStart => exact ⟨0, Nat.zero_le _, rfl, hide (by simp)⟩
  case round =>
    obtain ⟨k, hk, rfl, hp⟩ := hrel
    by_cases hlt : k < l.length
    · obtain ⟨b, off, rfl, _, hcell⟩ := RI.at_ HR.out hlt
      go_wp2_with (first | (go_at_call 101; refine (within_any _ _ _ _).mono ?_; rintro e w' ⟨rfl, rfl⟩))
      · have ht : (!inR l[k] lo hi) = true := by assumption
        go_ret
        exact ⟨ret_bool (all_false_at l (inR · lo hi) k hlt (by simpa using ht)).symm, rfl⟩
      · have ht : (!inR l[k] lo hi) = false := by assumption
        go_round
        case rel => exact ⟨k + 1, by omega, by go_num, hide (by rw [all_take_succ l _ k hlt, hp.out]; simpa using ht)⟩
        case measure => simp [intOf]; omega
    · go_wp2
      go_ret
      exact ⟨ret_bool (by rw [← all_of_take l _ k hlt, hp.out]), rfl⟩

theorem int_info : (Try.prog.info? 3).map (fun i => (i.zero, i.size, i.bytes)) = some (some (.int .i64 0), 1, 8) := by kernel_rfl

theorem set_fill (l : List Int) (k : Nat) (h : k < l.length) : ((encI (l.take k)) ++ List.replicate (l.length - k) (Value.int .i64 0)).set k (.int .i64 l[k]) = encI (l.take (k + 1)) ++ List.replicate (l.length - (k + 1)) (Value.int .i64 0) := by
  have e : l.length - k = (l.length - (k + 1)) + 1 := by omega
  rw [e, List.replicate_succ, List.set_append, if_neg (by simp [encI]; omega), List.take_succ_eq_append_getElem h, encI_append]
  simp [encI, Nat.min_eq_left (Nat.le_of_lt h)]

theorem toIntS_any (l : List Int) (A : Option Addr) (c : Nat) (w : World) (hl : l.length ≤ 1048576) (hr : RI w A l) :
   Calls Try.prog 41 #[.slice A l.length c] w fun e w' => ∃ g, e = .returned (.slice (some ⟨g, 0, none⟩) l.length l.length) ∧ w'.ownsRow w.heap.size 3 1 (.slice (some ⟨g, 0, none⟩) l.length l.length) l.length (encI l) ∧ Ext w w' := by
  obtain ⟨i0, hi, hz0, hz1, hz2⟩ := info_parts int_info
  have HR := hide hr
  clear hr
  go_enter Try.func41, Try.ntmps41
  go_wp2_with (at_make; refine wpList_make_full _ rfl _ _ 29 rfl w.heap.size 3 i0 (.int .i64 0) 1 Try.underlying29 hi hz0 hz1 .i64 .i64 l.length l.length l.length rfl rfl rfl rfl (by rw [hz2]; omega) (by unfold maxLen; omega) (Nat.le_refl _) ?_; intro w1 hown hgrow)
  rw [Nat.mul_one, show (Value.int .i64 0).cells = #[Value.int .i64 0] from rfl, toList_madeCells_one] at hown
  have HE := hide (grown_ext hgrow)
  clear hgrow hi hz0 hz1 hz2
  go_loopw [4] (fun i wr => ∃ k : Nat, k ≤ l.length ∧ i = .int .i64 k ∧ wr.ownsRow w.heap.size 3 1 (.slice (some ⟨w.heap.size, 0, none⟩) l.length l.length) l.length (encI (l.take k) ++ List.replicate (l.length - k) (Value.int .i64 0)) ∧ Ext w wr) (fun i _ => l.length - (intOf i).toNat)
  case atStart => exact ⟨0, Nat.zero_le _, rfl, by simpa [encI] using hown, HE.out⟩
  case round =>
    obtain ⟨k, hk, rfl, hown1, hE1⟩ := hrel
    clear hown HE
    by_cases hlt : k < l.length
    · obtain ⟨b, off, rfl, hb, hcell⟩ := RI.at_ (Rds.ext HR.out hE1) hlt
      have hd := own_cell hown1 k (by omega)
      have hf := hown1.frozenAt k
      have hs := hown1.stored k (.int .i64 l[k])
      rw [set_fill l k hlt] at hs
      have HS := hide (And.intro hs.1 (hE1.set (p := ⟨w.heap.size, k, none⟩) (Nat.le_refl _) (.int .i64 l[k])))
      clear hs hown1 hE1
      obtain ⟨vd, hd⟩ := hd
      go_wp2
      go_roundw
      case rel => exact ⟨k + 1, by omega, by go_num, HS.out.1, HS.out.2⟩
      case measure => simp [intOf]; omega
    · have hkl : k = l.length := by omega
      subst hkl
      go_wp2
      go_ret
      exact ⟨_, rfl, by simpa using hown1, hE1⟩
theorem eqIntS_any (l m : List Int) (A B : Option Addr) (c d : Nat) (w : World) (hl : l.length ≤ 1048576) (hm : m.length ≤ 1048576) (hr : RI w A l) (hr' : RI w B m) :
   Calls Try.prog 43 #[.slice A l.length c, .slice B m.length d] w fun e w' => e = .returned (.bool (decide (l = m))) ∧ Ext w w' := by
  have HR := hide hr
  have HR' := hide hr'
  clear hr hr'
  by_cases hlm : l.length = m.length
  · have hne : ((l.length : Int) != (m.length : Int)) = false := by rw [bne_eq_false_iff_eq]; omega
    have HL := hide hlm
    clear hlm
    go_enter Try.func43, Try.ntmps43
    go_wp2
    go_loopw [5] (fun i wr => ∃ k : Nat, k ≤ l.length ∧ i = .int .i64 k ∧ Hid (l.take k = m.take k) ∧ ∃ nd, wr = w.drewN nd) (fun i _ => l.length - (intOf i).toNat)
    case atStart => exact ⟨0, Nat.zero_le _, rfl, hide (by simp), 0, rfl⟩
    case round =>
      obtain ⟨k, hk, rfl, hp, nd, rfl⟩ := hrel
      by_cases hlt : k < l.length
      · have hltm : k < m.length := by rw [← HL.out]; exact hlt
        obtain ⟨b, off, rfl, _, hcell⟩ := RI.at_ HR.out hlt
        obtain ⟨b', off', rfl, _, hcell'⟩ := RI.at_ HR'.out hltm
        by_cases hx : l[k] = m[k]
        · have hb : (l[k] != m[k]) = false := by rw [bne_eq_false_iff_eq]; exact hx
          have HX := hide hx
          clear hx
          go_wp2
          go_quiet (fail)
          go_wp2
          go_roundw
          case rel => exact ⟨k + 1, by omega, by go_num, hide (by rw [List.take_succ_eq_append_getElem hlt, List.take_succ_eq_append_getElem hltm, hp.out, HX.out]), _, rfl⟩
          case measure => simp [intOf]; omega
        · have hb : (l[k] != m[k]) = true := by rw [bne_iff_ne]; exact hx
          go_wp2
          go_quiet (fail)
          go_wp2
          go_ret
          exact ⟨ret_bool (by rw [eq_comm, decide_eq_false_iff_not]; intro h; subst h; exact hx rfl), by repeat (first | exact Ext.refl _ | apply Ext.drewN)⟩
      · go_wp2
        go_ret
        exact ⟨ret_bool (by rw [eq_comm, decide_eq_true_eq]; have h := hp.out; rwa [List.take_of_length_le (by omega), List.take_of_length_le (by have := HL.out; omega)] at h), by repeat (first | exact Ext.refl _ | apply Ext.drewN)⟩
  · have hne : ((l.length : Int) != (m.length : Int)) = true := by rw [bne_iff_ne]; omega
    go_enter Try.func43, Try.ntmps43
    go_wp2
    go_ret
    exact ⟨ret_bool (by rw [eq_comm, decide_eq_false_iff_not]; intro h; exact hlm (by rw [h])), Ext.refl _⟩

end Go.Proofs.Ytkgbilbicdiadaa
