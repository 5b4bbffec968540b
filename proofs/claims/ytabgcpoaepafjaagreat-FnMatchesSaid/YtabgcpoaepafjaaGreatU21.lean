/- Words and walks for the law FnMatches, a part of them. No condition but that the arguments lie in memory. -/
import Derived.Test.YtabgcpoaepafjaaGreatU2
import Derived.Deep.AppendLies
import Derived.IntWalk
set_option linter.unusedVariables false
set_option linter.unusedSimpArgs false
namespace Go.Proofs.YtabgcpoaepafjaaGreat.Shp
open Go.RowKit
def nodeOk (a b : Int) : Bool := inR a 0 20 && inR b 0 20
theorem nodeOk_true {a b : Int} (h : nodeOk a b = true) : 0 ≤ a ∧ a ≤ 20 ∧ 0 ≤ b ∧ b ≤ 20 := by
  simp only [nodeOk, Bool.and_eq_true] at h
  have h1 := inR_true h.1
  have h2 := inR_true h.2
  omega
def nodesOkB (l : List P2) : Bool := l.all fun p => nodeOk p.1 p.2
theorem nodesOkB_at {l : List P2} (h : nodesOkB l = true) {k : Nat} (hk : k < l.length) : 0 ≤ l[k].1 ∧ l[k].1 ≤ 20 ∧ 0 ≤ l[k].2 ∧ l[k].2 ≤ 20 :=
  nodeOk_true (List.all_eq_true.1 h l[k] (List.getElem_mem hk))
theorem NodeOk_any (a b : Int) (w : World) : Calls Tryz.prog 135 #[.agg #[.int .i64 a, .int .i64 b]] w fun e w' => e = .returned (.bool (nodeOk a b)) ∧ Ext w w' := by
  go_enter Tryz.func135, Tryz.ntmps135
  go_wp2_with (first | (go_at_call 67; refine (within_any _ _ _ _).mono ?_; rintro e w' ⟨rfl, rfl⟩))
  all_goals (go_ret; exact ⟨(ret_bool (by (try simp only [Bool.not_eq_true'] at *); (try simp only [Bool.not_eq_false'] at *); (try simp only [Bool.not_eq_true] at *); first | (simp [nodeOk, *]; done) | (simp [nodeOk, *]; omega) | (subst_vars; simp [nodeOk, *]; done) | (subst_vars; simp [nodeOk, *]; omega))), by repeat (first | exact kE | exact Ext.refl _ | apply Ext.alloc | apply Ext.drewN | apply Ext.drew | apply Ext.set0 | apply Ext.set1 | apply Ext.set2 | apply Ext.set3 | (refine Ext.setk ?_ (by omega) _) | (apply Ext.snoc; assumption))⟩)
theorem sNodeOk_any (a b : Int) (w : World) : Calls Tryz.prog 87 #[.agg #[.int .i64 a, .int .i64 b]] w fun e w' => e = .returned (.bool (nodeOk a b)) ∧ Ext w w' := by
  go_enter Tryz.func87, Tryz.ntmps87
  go_wp2_with (first | (go_at_call 65; refine (l01In_any _ _ _ _).mono ?_; rintro e w' ⟨rfl, rfl⟩))
  all_goals (go_ret; exact ⟨(ret_bool (by (try simp only [Bool.not_eq_true'] at *); (try simp only [Bool.not_eq_false'] at *); (try simp only [Bool.not_eq_true] at *); first | (simp [nodeOk, *]; done) | (simp [nodeOk, *]; omega) | (subst_vars; simp [nodeOk, *]; done) | (subst_vars; simp [nodeOk, *]; omega))), by repeat (first | exact kE | exact Ext.refl _ | apply Ext.alloc | apply Ext.drewN | apply Ext.drew | apply Ext.set0 | apply Ext.set1 | apply Ext.set2 | apply Ext.set3 | (refine Ext.setk ?_ (by omega) _) | (apply Ext.snoc; assumption))⟩)
theorem nodesOk_any (l : List P2) (A : Option Addr) (c : Nat) (w : World) (hl : l.length ≤ 1048576) (hr : R2 w A l) :
    Calls Tryz.prog 121 #[.slice A l.length c] w fun e w' => e = .returned (.bool (nodesOkB l)) ∧ Ext w w' := by
  have HR := hide hr
  clear hr
  go_enter Tryz.func121, Tryz.ntmps121
  go_wp2_with fail
  go_loopw [7] (fun i wr => ∃ k : Nat, k ≤ l.length ∧ i = .int .i64 k ∧ Hid (nodesOkB (l.take k) = true) ∧ Ext w wr) (fun i _ => l.length - (intOf i).toNat)
  case atStart => exact ⟨0, Nat.zero_le _, rfl, hide (by simp [nodesOkB]), Ext.refl _⟩
  case round =>
    obtain ⟨k, hk, rfl, hp, hE⟩ := hrel
    by_cases hlt : k < l.length
    · obtain ⟨b, off, rfl, hb, e0, e1⟩ := R2.at_ (HR.out.ext hE) hlt
      have HN := hide (all_take_succ l (fun p => nodeOk p.1 p.2) k hlt)
      go_wp2_with (first | (go_at_call 135; refine (NodeOk_any _ _ _).mono ?_; rintro e w5 ⟨rfl, hb5⟩))
      · have hv : nodeOk l[k].1 l[k].2 = false := by (first | assumption | ((try simp only [Bool.not_eq_true'] at *); (try simp only [Bool.not_eq_false'] at *); (try simp only [Bool.not_eq_true] at *); assumption))
        go_ret
        exact ⟨ret_bool (by unfold nodesOkB; rw [all_false_at l _ k hlt hv]), by repeat (first | exact kE | exact Ext.refl _ | apply Ext.alloc | apply Ext.drewN | apply Ext.drew | apply Ext.set0 | apply Ext.set1 | apply Ext.set2 | apply Ext.set3 | (refine Ext.setk ?_ (by omega) _) | (apply Ext.snoc; assumption))⟩
      · have hv : nodeOk l[k].1 l[k].2 = true := by (first | assumption | ((try simp only [Bool.not_eq_true'] at *); (try simp only [Bool.not_eq_false'] at *); (try simp only [Bool.not_eq_true] at *); assumption))
        go_roundw
        case rel => exact ⟨k + 1, by omega, by go_num, hide (by unfold nodesOkB; rw [HN.out]; have := hp.out; unfold nodesOkB at this; rw [this, hv]; rfl), by repeat (first | exact kE | exact Ext.refl _ | apply Ext.alloc | apply Ext.drewN | apply Ext.drew | apply Ext.set0 | apply Ext.set1 | apply Ext.set2 | apply Ext.set3 | (refine Ext.setk ?_ (by omega) _) | (apply Ext.snoc; assumption))⟩
        case measure => simp [intOf]; omega
    · go_wp2
      go_ret
      exact ⟨ret_bool (by have := hp.out; rw [List.take_of_length_le (by omega)] at this; rw [this]), by repeat (first | exact kE | exact Ext.refl _ | apply Ext.alloc | apply Ext.drewN | apply Ext.drew | apply Ext.set0 | apply Ext.set1 | apply Ext.set2 | apply Ext.set3 | (refine Ext.setk ?_ (by omega) _) | (apply Ext.snoc; assumption))⟩
theorem l18Ok_any (l : List P2) (A : Option Addr) (c : Nat) (w : World) (hl : l.length ≤ 1048576) (hr : R2 w A l) :
    Calls Tryz.prog 114 #[.slice A l.length c] w fun e w' => e = .returned (.bool (nodesOkB l && decide (0 < l.length))) ∧ Ext w w' := by
  have HR := hide hr
  clear hr
  go_enter Tryz.func114, Tryz.ntmps114
  go_wp2_with fail
  go_loopw [3] (fun i wr => ∃ k : Nat, k ≤ l.length ∧ i = .int .i64 k ∧ Hid (nodesOkB (l.take k) = true) ∧ Ext w wr) (fun i _ => l.length - (intOf i).toNat)
  case atStart => exact ⟨0, Nat.zero_le _, rfl, hide (by simp [nodesOkB]), Ext.refl _⟩
  case round =>
    obtain ⟨k, hk, rfl, hp, hE⟩ := hrel
    by_cases hlt : k < l.length
    · obtain ⟨b, off, rfl, hb, e0, e1⟩ := R2.at_ (HR.out.ext hE) hlt
      have HN := hide (all_take_succ l (fun p => nodeOk p.1 p.2) k hlt)
      go_wp2_with (first | (go_at_call 87; refine (sNodeOk_any _ _ _).mono ?_; rintro e w5 ⟨rfl, hb5⟩))
      · have hv : nodeOk l[k].1 l[k].2 = false := by (first | assumption | ((try simp only [Bool.not_eq_true'] at *); (try simp only [Bool.not_eq_false'] at *); (try simp only [Bool.not_eq_true] at *); assumption))
        go_ret
        exact ⟨ret_bool (by unfold nodesOkB; rw [all_false_at l _ k hlt hv, Bool.false_and]), by repeat (first | exact kE | exact Ext.refl _ | apply Ext.alloc | apply Ext.drewN | apply Ext.drew | apply Ext.set0 | apply Ext.set1 | apply Ext.set2 | apply Ext.set3 | (refine Ext.setk ?_ (by omega) _) | (apply Ext.snoc; assumption))⟩
      · have hv : nodeOk l[k].1 l[k].2 = true := by (first | assumption | ((try simp only [Bool.not_eq_true'] at *); (try simp only [Bool.not_eq_false'] at *); (try simp only [Bool.not_eq_true] at *); assumption))
        go_roundw
        case rel => exact ⟨k + 1, by omega, by go_num, hide (by unfold nodesOkB; rw [HN.out]; have := hp.out; unfold nodesOkB at this; rw [this, hv]; rfl), by repeat (first | exact kE | exact Ext.refl _ | apply Ext.alloc | apply Ext.drewN | apply Ext.drew | apply Ext.set0 | apply Ext.set1 | apply Ext.set2 | apply Ext.set3 | (refine Ext.setk ?_ (by omega) _) | (apply Ext.snoc; assumption))⟩
        case measure => simp [intOf]; omega
    · go_wp2
      go_ret
      exact ⟨ret_bool (by have := hp.out; rw [List.take_of_length_le (by omega)] at this; rw [this, Bool.true_and, Bool.eq_iff_iff]; (try simp)), by repeat (first | exact kE | exact Ext.refl _ | apply Ext.alloc | apply Ext.drewN | apply Ext.drew | apply Ext.set0 | apply Ext.set1 | apply Ext.set2 | apply Ext.set3 | (refine Ext.setk ?_ (by omega) _) | (apply Ext.snoc; assumption))⟩
def sameB (l m : List P2) : Bool := decide (0 < l.length) && decide (l = m)
set_option maxHeartbeats 1000000 in
theorem equalN_any (l m : List P2) (A B : Option Addr) (c d : Nat) (w : World) (hl : l.length ≤ 1048576) (hm : m.length ≤ 1048576) (hr : R2 w A l) (hr' : R2 w B m) :
   Calls Tryz.prog 122 #[.slice A l.length c, .slice B m.length d] w fun e w' => e = .returned (.bool (decide (l = m))) ∧ Ext w w' := by
  have HR := hide hr
  have HR' := hide hr'
  clear hr hr'
  by_cases hlm : l.length = m.length
  · have hne : ((l.length : Int) != (m.length : Int)) = false := by rw [bne_eq_false_iff_eq]; omega
    have HL := hide hlm
    clear hlm
    go_enter Tryz.func122, Tryz.ntmps122
    go_wp2
    go_loopw [13] (fun i wr => ∃ k : Nat, k ≤ l.length ∧ i = .int .i64 k ∧ Hid (l.take k = m.take k) ∧ Ext w wr) (fun i _ => l.length - (intOf i).toNat)
    case atStart => exact ⟨0, Nat.zero_le _, rfl, hide (by simp), Ext.refl _⟩
    case round =>
      obtain ⟨k, hk, rfl, hp, hE⟩ := hrel
      by_cases hlt : k < l.length
      · have hltm : k < m.length := by rw [← HL.out]; exact hlt
        obtain ⟨b, off, rfl, hb, hc0, hc1⟩ := R2.at_ (Rds.ext HR.out hE) hlt
        obtain ⟨b', off', rfl, hb', hc0', hc1'⟩ := R2.at_ (Rds.ext HR'.out hE) hltm
        by_cases hx : l[k].1 = m[k].1
        · by_cases hy : l[k].2 = m[k].2
          · have HX := hide (Prod.ext hx hy)
            go_wp2_with fail
            go_quiet (fail)
            go_wp2
            go_roundw
            case rel => exact ⟨k + 1, by omega, by go_num, hide (by rw [List.take_succ_eq_append_getElem hlt, List.take_succ_eq_append_getElem hltm, hp.out, HX.out]), by repeat (first | exact kE | exact Ext.refl _ | apply Ext.alloc | apply Ext.drewN | apply Ext.drew | apply Ext.set0 | apply Ext.set1 | apply Ext.set2 | apply Ext.set3 | (refine Ext.setk ?_ (by omega) _) | (apply Ext.snoc; assumption))⟩
            case measure => simp [intOf]; omega
          · have HX := hide (show l ≠ m from fun e => hy (by subst e; rfl))
            go_wp2_with fail
            go_quiet (fail)
            go_wp2
            go_ret
            exact ⟨ret_bool (by have := HX.out; simp [this]), by repeat (first | exact kE | exact Ext.refl _ | apply Ext.alloc | apply Ext.drewN | apply Ext.drew | apply Ext.set0 | apply Ext.set1 | apply Ext.set2 | apply Ext.set3 | (refine Ext.setk ?_ (by omega) _) | (apply Ext.snoc; assumption))⟩
        · have HX := hide (show l ≠ m from fun e => hx (by subst e; rfl))
          go_wp2_with fail
          go_quiet (fail)
          go_wp2
          go_ret
          exact ⟨ret_bool (by have := HX.out; simp [this]), by repeat (first | exact kE | exact Ext.refl _ | apply Ext.alloc | apply Ext.drewN | apply Ext.drew | apply Ext.set0 | apply Ext.set1 | apply Ext.set2 | apply Ext.set3 | (refine Ext.setk ?_ (by omega) _) | (apply Ext.snoc; assumption))⟩
      · go_wp2
        go_ret
        exact ⟨ret_bool (by have h := hp.out; rw [List.take_of_length_le (by omega), List.take_of_length_le (by have := HL.out; omega)] at h; subst h; simp []), by repeat (first | exact kE | exact Ext.refl _ | apply Ext.alloc | apply Ext.drewN | apply Ext.drew | apply Ext.set0 | apply Ext.set1 | apply Ext.set2 | apply Ext.set3 | (refine Ext.setk ?_ (by omega) _) | (apply Ext.snoc; assumption))⟩
  · have hne : ((l.length : Int) != (m.length : Int)) = true := by rw [bne_iff_ne]; omega
    go_enter Tryz.func122, Tryz.ntmps122
    go_wp2
    go_ret
    exact ⟨ret_bool (by rw [eq_comm, decide_eq_false_iff_not]; intro h; exact hlm (by rw [h])), Ext.refl _⟩
theorem SameShape_any (l : List P2) (A : Option Addr) (c : Nat) (m : List P2) (B : Option Addr) (d : Nat) (w : World) (hl : l.length ≤ 1048576) (hm : m.length ≤ 1048576) (hr : R2 w A l) (hr' : R2 w B m) :
   Calls Tryz.prog 94 #[.slice A l.length c, .slice B m.length d] w fun e w' => e = .returned (.bool (sameB l m)) ∧ Ext w w' := by
  by_cases h0 : 0 < l.length
  · go_enter Tryz.func94, Tryz.ntmps94
    go_wp2_with (first | (go_at_call 122; refine (equalN_any l m _ _ _ _ _ hl hm hr hr').mono ?_; rintro e w5 ⟨rfl, hb5⟩))
    go_ret
    exact ⟨ret_bool (by simp [sameB, h0]), by repeat (first | exact kE | exact Ext.refl _ | apply Ext.alloc | apply Ext.drewN | apply Ext.drew | apply Ext.set0 | apply Ext.set1 | apply Ext.set2 | apply Ext.set3 | (refine Ext.setk ?_ (by omega) _) | (apply Ext.snoc; assumption))⟩
  · go_enter Tryz.func94, Tryz.ntmps94
    go_wp2_with fail
    go_ret
    exact ⟨ret_bool (by simp [sameB, h0]), by repeat (first | exact kE | exact Ext.refl _ | apply Ext.alloc | apply Ext.drewN | apply Ext.drew | apply Ext.set0 | apply Ext.set1 | apply Ext.set2 | apply Ext.set3 | (refine Ext.setk ?_ (by omega) _) | (apply Ext.snoc; assumption))⟩
end Go.Proofs.YtabgcpoaepafjaaGreat.Shp
namespace Go.Proofs.YtabgcpoaepafjaaGreat.Shp
open Go.RowKit
/-- The least of a coordinate among the first k nodes (and the first of all). -/
def mnF (f : P2 → Int) (l : List P2) : Nat → Int
  | 0 => f (l.getD 0 (0, 0))
  | k + 1 => match l[k]? with | some p => if f p < mnF f l k then f p else mnF f l k | none => mnF f l k
/-- The place of the lowest, then leftmost, of the first k nodes. -/
def fsT (l : List P2) : Nat → Nat
  | 0 => 0
  | k + 1 => match l[k]?, l[fsT l k]? with
    | some p, some q => if p.2 < q.2 ∨ (p.2 = q.2 ∧ p.1 < q.1) then k else fsT l k
    | _, _ => fsT l k
theorem fsT_lt {l : List P2} (h : 0 < l.length) : ∀ k, k ≤ l.length → fsT l k < l.length
  | 0, _ => h
  | k + 1, hk => by
    have ih := fsT_lt h k (by omega)
    simp only [fsT]
    split
    · split
      · omega
      · exact ih
    · exact ih
theorem fsT_step {l : List P2} {k : Nat} (hk : k < l.length) (hf : fsT l k < l.length) : fsT l (k + 1) = if l[k].2 < l[fsT l k].2 ∨ (l[k].2 = l[fsT l k].2 ∧ l[k].1 < l[fsT l k].1) then k else fsT l k := by
  simp only [fsT, List.getElem?_eq_getElem hk, List.getElem?_eq_getElem hf]
theorem mnF_step (f : P2 → Int) {l : List P2} {k : Nat} (hk : k < l.length) : mnF f l (k + 1) = if f l[k] < mnF f l k then f l[k] else mnF f l k := by
  simp only [mnF, List.getElem?_eq_getElem hk]
theorem mnF_zero (f : P2 → Int) {l : List P2} (h : 0 < l.length) : mnF f l 0 = f l[0] := by
  simp [mnF, h]
theorem mnF_in {f : P2 → Int} {l : List P2} {lo hi : Int} (h : 0 < l.length) (hb : ∀ p ∈ l, lo ≤ f p ∧ f p ≤ hi) : ∀ k, lo ≤ mnF f l k ∧ mnF f l k ≤ hi
  | 0 => by
    rw [mnF_zero f h]
    exact hb _ (List.getElem_mem h)
  | k + 1 => by
    have ih := mnF_in h hb k
    simp only [mnF]
    split
    · rename_i p hp
      have := hb p (List.mem_of_getElem? hp)
      split <;> omega
    · exact ih
def fitAt (l : List P2) (i : Nat) : P2 :=
  let p := l.getD ((fsT l l.length + i) % l.length) (0, 0)
  (p.1 - mnF (·.1) l l.length, p.2 - mnF (·.2) l l.length)
/-- The nodes from the lowest on, moved so that the least numbers are 0. -/
def fit (l : List P2) : List P2 := (List.range l.length).map (fitAt l)
theorem fit_length (l : List P2) : (fit l).length = l.length := by simp [fit]
def fitTo (l : List P2) (k : Nat) : List P2 := (List.range k).map (fitAt l)
theorem fitTo_succ (l : List P2) (k : Nat) : fitTo l (k + 1) = fitTo l k ++ [fitAt l k] := by simp [fitTo, List.range_succ]
theorem fitAt_eq {l : List P2} {i j : Nat} (hj : j < l.length) (e : (fsT l l.length + i) % l.length = j) : fitAt l i = (l[j].1 - mnF (·.1) l l.length, l[j].2 - mnF (·.2) l l.length) := by
  subst e
  unfold fitAt
  simp [hj]
/-- All numbers are small. -/
def small (l : List P2) : Prop := ∀ p ∈ l, -1000 ≤ p.1 ∧ p.1 ≤ 1000 ∧ -1000 ≤ p.2 ∧ p.2 ≤ 1000
theorem small_at {l : List P2} (h : small l) {k : Nat} (hk : k < l.length) : -1000 ≤ l[k].1 ∧ l[k].1 ≤ 1000 ∧ -1000 ≤ l[k].2 ∧ l[k].2 ≤ 1000 := h _ (List.getElem_mem hk)
theorem mn1_small {l : List P2} (h : small l) (h0 : 0 < l.length) (k : Nat) : -1000 ≤ mnF (·.1) l k ∧ mnF (·.1) l k ≤ 1000 := mnF_in h0 (fun p hp => ⟨(h p hp).1, (h p hp).2.1⟩) k
theorem mn2_small {l : List P2} (h : small l) (h0 : 0 < l.length) (k : Nat) : -1000 ≤ mnF (·.2) l k ∧ mnF (·.2) l k ≤ 1000 := mnF_in h0 (fun p hp => ⟨(h p hp).2.2.1, (h p hp).2.2.2⟩) k
def turned (l : List P2) : List P2 := l.map fun p => (-p.2, p.1)
def mirrored (l : List P2) : List P2 := (l.map fun p => (-p.1, p.2)).reverse
def turnV (l : List P2) : List P2 := if nodesOkB l && decide (0 < l.length) then fit (turned l) else []
theorem turned_small {l : List P2} (h : nodesOkB l = true) : small (turned l) := by
  intro p hp
  obtain ⟨q, hq, rfl⟩ := List.mem_map.1 hp
  have := nodeOk_true (List.all_eq_true.1 h q hq)
  simp only
  omega
theorem turned_length (l : List P2) : (turned l).length = l.length := by simp [turned]
theorem mirrored_length (l : List P2) : (mirrored l).length = l.length := by simp [mirrored]
theorem turnV_length (l : List P2) (h : l.length ≤ 1048576) : (turnV l).length ≤ 1048576 := by
  unfold turnV
  split
  · rw [fit_length, turned_length]; exact h
  · exact Nat.zero_le _
theorem turned_succ (l : List P2) (k : Nat) (h : k < l.length) : turned (l.take (k + 1)) = turned (l.take k) ++ [(-l[k].2, l[k].1)] := by
  unfold turned
  rw [List.take_succ_eq_append_getElem h]; simp only [List.map_append, List.map_cons, List.map_nil]
theorem enc2_snoc (l : List P2) (p : P2) : enc2 (l ++ [p]) = enc2 l ++ [.int .i64 p.1, .int .i64 p.2] := by rw [enc2_append]; rfl
end Go.Proofs.YtabgcpoaepafjaaGreat.Shp
namespace Go.Proofs.YtabgcpoaepafjaaGreat.Shp
open Go.RowKit
theorem append_info : (Tryz.prog.info? 84).map (fun i => (i.zero, i.size, i.bytes)) = some (some (.agg #[.int .i64 0, .int .i64 0]), 2, 16) := by kernel_rfl
theorem one2 (a b : Int) : ∀ u ∈ [Value.int .i64 a, Value.int .i64 b], u.oneCell' = true := by intro u hu; simp at hu; rcases hu with rfl | rfl <;> rfl
set_option maxRecDepth 100000 in
set_option maxHeartbeats 4000000 in
theorem begun_any (l : List P2) (A : Option Addr) (c : Nat) (w : World) (hl : l.length ≤ 1048576) (h0 : 0 < l.length) (hs : small l) (hr : R2 w A l) :
    Calls Tryz.prog 95 #[.slice A l.length c] w fun e w' => ∃ Ar cr, e = .returned (.slice Ar (fit l).length cr) ∧ w'.ownsRow w.heap.size 84 2 (.slice Ar (fit l).length cr) (fit l).length (enc2 (fit l)) ∧ Ext w w' := by
  obtain ⟨i0, hi, hz0, hz1, hz2⟩ := info_parts append_info
  have HR := hide hr
  have HS := hide hs
  clear hs
  obtain ⟨b0, o0, hA0, hb0, c0, c1⟩ := R2.at_ hr h0
  simp only [Nat.zero_mul, Nat.add_zero] at c0 c1
  clear hr
  subst hA0
  have HZ1 := hide (mnF_zero (·.1) h0)
  have HZ2 := hide (mnF_zero (·.2) h0)
  go_enter Tryz.func95, Tryz.ntmps95
  go_wp2_with fail
  clear c0 c1 hb0
  go_loopw [17] (fun i wr => ∃ k : Nat, k ≤ l.length ∧ i = .int .i64 k ∧ Blk wr w.heap.size 84 [.int .i64 (mnF (·.1) l k), .int .i64 (mnF (·.2) l k)] ∧ Ext w wr) (fun i _ => l.length - (intOf i).toNat)
  case atStart => exact ⟨0, Nat.zero_le _, rfl, by rw [HZ1.out, HZ2.out]; exact Blk.new w _ [_, _], by repeat (first | exact kE | exact Ext.refl _ | apply Ext.alloc | apply Ext.drewN | apply Ext.drew | apply Ext.set0 | apply Ext.set1 | apply Ext.set2 | apply Ext.set3 | (refine Ext.setk ?_ (by omega) _) | (apply Ext.snoc; assumption))⟩
  case round =>
    obtain ⟨k, hk, rfl, hB, hE⟩ := hrel
    have HB := hide hB
    have HE := hide hE
    have d0 : wr.cell? ⟨w.heap.size, 0, none⟩ = some (.int .i64 (mnF (·.1) l k)) := hB.cell 0
    have d1 : wr.cell? ⟨w.heap.size, 1, none⟩ = some (.int .i64 (mnF (·.2) l k)) := hB.cell 1
    have df := hB.free
    have dz := hB.lt
    clear hB
    by_cases hlt : k < l.length
    · obtain ⟨b, off, hA, hb, e0, e1⟩ := R2.at_ (HR.out.ext hE) hlt
      injection hA with hA
      injection hA with hA1 hA2 _
      subst hA1 hA2
      have HM1 := hide (mnF_step (·.1) hlt)
      have HM2 := hide (mnF_step (·.2) hlt)
      clear hE
      go_wp2_with fail
      go_roundw
      case rel =>
        refine ⟨k + 1, by omega, by go_num, ?_, by have hE := HE.out; repeat (first | exact kE | exact Ext.refl _ | apply Ext.alloc | apply Ext.drewN | apply Ext.drew | apply Ext.set0 | apply Ext.set1 | apply Ext.set2 | apply Ext.set3 | (refine Ext.setk ?_ (by omega) _) | (apply Ext.snoc; assumption))⟩
        rw [HM1.out, HM2.out]
        exact (((HB.out.set 0 _).set 1 _).ext ((Ext.refl _).alloc _))
      case measure => simp [intOf]; omega
    · obtain rfl : k = l.length := by omega
      have hkeep : Tr [(w.heap.size, [.int .i64 (mnF (·.1) l l.length), .int .i64 (mnF (·.2) l l.length)])] w wr := ⟨⟨⟨dz, df, d0, d1, trivial⟩, trivial⟩, hE⟩
      have HT := hide hkeep
      clear hkeep d0 d1 df dz hE HB HE
      obtain ⟨w1, rfl⟩ : ∃ w1 : World, w1 = wr := ⟨_, rfl⟩
      go_wp2_with fail
      go_loopw [6, 35] (fun f i wr => ∃ k : Nat, k ≤ l.length ∧ i = .int .i64 k ∧ f = .int .i64 (fsT l k) ∧ Ext w1 wr) (fun _ i _ => l.length - (intOf i).toNat)
      case atStart => exact ⟨0, Nat.zero_le _, rfl, rfl, Ext.refl _⟩
      case round =>
        obtain ⟨k, hk, rfl, rfl, hE⟩ := hrel
        have HE := hide hE
        have hfl := fsT_lt h0 k hk
        by_cases hlt : k < l.length
        · obtain ⟨b, off, hA, hb, e0, e1⟩ := R2.at_ (HR.out.ext (HT.out.2.trans hE)) hlt
          obtain ⟨b', off', hA', hb', f0, f1⟩ := R2.at_ (HR.out.ext (HT.out.2.trans hE)) hfl
          injection hA with hA
          injection hA with hA1 hA2 _
          subst hA1 hA2
          injection hA' with hA'
          injection hA' with hA1 hA2 _
          subst hA1 hA2
          have HF := hide (fsT_step hlt hfl)
          have q1 : (0 : Int) ≤ (fsT l k : Int) := by omega
          have q2 : (fsT l k : Int) < (l.length : Int) := by omega
          have q3 : ((fsT l k : Int)).toNat = fsT l k := by omega
          clear hE
          by_cases y1 : l[k].2 < l[fsT l k].2
          · go_wp2_with fail
            go_quiet (fail)
            go_wp2
            go_roundw
            case rel => exact ⟨k + 1, by omega, by go_num, by rw [HF.out, if_pos (.inl y1)], by have hE := HE.out; repeat (first | exact kE | exact Ext.refl _ | apply Ext.alloc | apply Ext.drewN | apply Ext.drew | apply Ext.set0 | apply Ext.set1 | apply Ext.set2 | apply Ext.set3 | (refine Ext.setk ?_ (by omega) _) | (apply Ext.snoc; assumption))⟩
            case measure => simp [intOf]; omega
          · have y1' : decide (l[k].2 < l[fsT l k].2) = false := by simpa using y1
            have y1n : l[fsT l k].2 ≤ l[k].2 := by omega
            by_cases y2 : l[k].2 = l[fsT l k].2
            · have y2' : (l[k].2 == l[fsT l k].2) = true := by simpa using y2
              have HY := hide y2
              by_cases x1 : l[k].1 < l[fsT l k].1
              · clear y1 y2
                go_wp2_with fail
                go_quiet (fail)
                go_wp2
                go_roundw
                case rel => exact ⟨k + 1, by omega, by go_num, by rw [HF.out, if_pos (.inr ⟨HY.out, x1⟩)], by have hE := HE.out; repeat (first | exact kE | exact Ext.refl _ | apply Ext.alloc | apply Ext.drewN | apply Ext.drew | apply Ext.set0 | apply Ext.set1 | apply Ext.set2 | apply Ext.set3 | (refine Ext.setk ?_ (by omega) _) | (apply Ext.snoc; assumption))⟩
                case measure => simp [intOf]; omega
              · have x1' : decide (l[k].1 < l[fsT l k].1) = false := by simpa using x1
                clear y2
                go_wp2_with fail
                go_quiet (fail)
                go_wp2
                go_roundw
                case rel => exact ⟨k + 1, by omega, by go_num, by rw [HF.out, if_neg (by omega)], by have hE := HE.out; repeat (first | exact kE | exact Ext.refl _ | apply Ext.alloc | apply Ext.drewN | apply Ext.drew | apply Ext.set0 | apply Ext.set1 | apply Ext.set2 | apply Ext.set3 | (refine Ext.setk ?_ (by omega) _) | (apply Ext.snoc; assumption))⟩
                case measure => simp [intOf]; omega
            · have y2' : (l[k].2 == l[fsT l k].2) = false := by simpa using y2
              go_wp2_with fail
              go_quiet (fail)
              go_wp2
              go_roundw
              case rel => exact ⟨k + 1, by omega, by go_num, by rw [HF.out, if_neg (by omega)], by have hE := HE.out; repeat (first | exact kE | exact Ext.refl _ | apply Ext.alloc | apply Ext.drewN | apply Ext.drew | apply Ext.set0 | apply Ext.set1 | apply Ext.set2 | apply Ext.set3 | (refine Ext.setk ?_ (by omega) _) | (apply Ext.snoc; assumption))⟩
              case measure => simp [intOf]; omega
        · obtain rfl : k = l.length := by omega
          have HT := hide (HT.out.ext hE)
          have HK := hide HT.out.2
          clear hE HE hfl
          obtain ⟨w2, rfl⟩ : ∃ w2 : World, w2 = wr := ⟨_, rfl⟩
          go_wp2_with fail
          go_loopw [9, 72] (fun v i wr => ∃ k : Nat, k ≤ l.length ∧ i = .int .i64 k ∧ wr.ownsRow w2.heap.size 84 2 v k (enc2 (fitTo l k)) ∧ Ext w2 wr) (fun _ i _ => l.length - (intOf i).toNat)
          case atStart => exact ⟨0, Nat.zero_le _, rfl, World.ownsRow_nil _ _ _ _, Ext.refl _⟩
          case round =>
            obtain ⟨k, hk, rfl, hown, hE⟩ := hrel
            have HO := hide hown
            have HE := hide hE
            have hsz := hE.size
            have HT := hide (HT.out.ext hE)
            have kT := HT.out
            simp only [Tr, Bx, CellsAt, Nat.reduceAdd, Nat.zero_add, and_true] at kT
            obtain ⟨⟨dz, df, d0, d1⟩, kE⟩ := kT
            clear hown hE
            by_cases hlt : k < l.length
            · have hfl := fsT_lt h0 l.length (Nat.le_refl _)
              obtain ⟨j, hj⟩ : ∃ j, (fsT l l.length + k) % l.length = j := ⟨_, rfl⟩
              have hjl : j < l.length := by rw [← hj]; exact Nat.mod_lt _ h0
              have HA := hide (fitAt_eq hjl hj)
              have q0 : ((fsT l l.length : Int) + (k : Int)) % (l.length : Int) = (j : Int) := by rw [← hj]; push_cast; rfl
              clear hj
              have q1 : (j : Int) < (l.length : Int) := by omega
              have q2 : (0 : Int) ≤ (j : Int) := by omega
              have q3 : (fsT l l.length : Int) < (l.length : Int) := by omega
              have B := small_at HS.out hjl
              have B1 := mn1_small HS.out h0 l.length
              have B2 := mn2_small HS.out h0 l.length
              obtain ⟨b, off, hA, hb, e0, e1⟩ := R2.at_ (HR.out.ext kE) hjl
              injection hA with hA
              injection hA with hA1 hA2 _
              subst hA1 hA2
              go_wp2_with (at_builtin; refine wpList_append_own _ rfl _ _ 24 rfl w2.heap.size 84 i0 (.agg #[.int .i64 0, .int .i64 0]) 2 16 Tryz.underlying24 hi hz0 hz1 hz2 rfl (by decide) u9 k (enc2 (fitTo l k)) rfl (own_ext HO.out (by clear kE; repeat (first | exact kE | exact Ext.refl _ | apply Ext.alloc | apply Ext.drewN | apply Ext.drew | apply Ext.set0 | apply Ext.set1 | apply Ext.set2 | apply Ext.set3 | (refine Ext.setk ?_ (by omega) _) | (apply Ext.snoc; assumption)))) ⟨wr.heap.size + 1, 0, none⟩ 1 1 [.int .i64 (l[j].1 - mnF (·.1) l l.length), .int .i64 (l[j].2 - mnF (·.2) l l.length)] rfl rfl (by simpa using news_new (wr.alloc _) #[.int .i64 (l[j].1 - mnF (·.1) l l.length), .int .i64 (l[j].2 - mnF (·.2) l l.length)] 84) (one2 _ _) (by unfold maxLen; omega) (by omega) (by simp; omega) ?_; intro v' w4 hown4 hgrow4 hnil)
              have E4 := Ext.grown (show Ext w2 _ from ((HE.out.alloc _).alloc _)) hgrow4 (own_base HO.out (Nat.le_refl _))
              have HO4 := hide hown4
              clear hown4 hgrow4 hnil q0
              go_roundw
              case rel => exact ⟨k + 1, by omega, by go_num, by rw [fitTo_succ, HA.out, enc2_snoc]; exact HO4.out, E4⟩
              case measure => simp [intOf]; omega
            · obtain rfl : k = l.length := by omega
              obtain ⟨Ar, cr, rfl, _, _, _⟩ := own_slice HO.out
              go_wp2_with fail
              go_ret
              have hfl2 := fit_length l
              exact ⟨Ar, cr, congrArg (fun n => Ending.returned (.slice Ar n cr)) hfl2.symm, by rw [hfl2]; exact own_mono HO.out HK.out.size, kE⟩
set_option maxRecDepth 100000 in
set_option maxHeartbeats 4000000 in
theorem l18Fit_any (l : List P2) (A : Option Addr) (c : Nat) (w : World) (hl : l.length ≤ 1048576) (h0 : 0 < l.length) (hs : small l) (hr : R2 w A l) :
    Calls Tryz.prog 56 #[.slice A l.length c] w fun e w' => ∃ Ar cr, e = .returned (.slice Ar (fit l).length cr) ∧ w'.ownsRow w.heap.size 84 2 (.slice Ar (fit l).length cr) (fit l).length (enc2 (fit l)) ∧ Ext w w' := by
  obtain ⟨i0, hi, hz0, hz1, hz2⟩ := info_parts append_info
  have HR := hide hr
  have HS := hide hs
  clear hs
  obtain ⟨b0, o0, hA0, hb0, c0, c1⟩ := R2.at_ hr h0
  simp only [Nat.zero_mul, Nat.add_zero] at c0 c1
  clear hr
  subst hA0
  have HZ1 := hide (mnF_zero (·.1) h0)
  have HZ2 := hide (mnF_zero (·.2) h0)
  go_enter Tryz.func56, Tryz.ntmps56
  go_wp2_with fail
  clear c0 c1 hb0
  go_loopw [3, 4, 5, 6] (fun x y f i wr => ∃ k : Nat, k ≤ l.length ∧ i = .int .i64 k ∧ x = .int .i64 (mnF (·.1) l k) ∧ y = .int .i64 (mnF (·.2) l k) ∧ f = .int .i64 (fsT l k) ∧ Ext w wr) (fun _ _ _ i _ => l.length - (intOf i).toNat)
  case atStart => exact ⟨0, Nat.zero_le _, rfl, by rw [HZ1.out], by rw [HZ2.out], rfl, by repeat (first | exact kE | exact Ext.refl _ | apply Ext.alloc | apply Ext.drewN | apply Ext.drew | apply Ext.set0 | apply Ext.set1 | apply Ext.set2 | apply Ext.set3 | (refine Ext.setk ?_ (by omega) _) | (apply Ext.snoc; assumption))⟩
  case round =>
    obtain ⟨k, hk, rfl, rfl, rfl, rfl, hE⟩ := hrel
    have HE := hide hE
    have hfl := fsT_lt h0 k hk
    by_cases hlt : k < l.length
    · obtain ⟨b, off, hA, hb, e0, e1⟩ := R2.at_ (HR.out.ext hE) hlt
      obtain ⟨b', off', hA', hb', f0, f1⟩ := R2.at_ (HR.out.ext hE) hfl
      injection hA with hA
      injection hA with hA1 hA2 _
      subst hA1 hA2
      injection hA' with hA'
      injection hA' with hA1 hA2 _
      subst hA1 hA2
      have HF := hide (fsT_step hlt hfl)
      have HM1 := hide (mnF_step (·.1) hlt)
      have HM2 := hide (mnF_step (·.2) hlt)
      have q1 : (0 : Int) ≤ (fsT l k : Int) := by omega
      have q2 : (fsT l k : Int) < (l.length : Int) := by omega
      have q3 : ((fsT l k : Int)).toNat = fsT l k := by omega
      have q4 : (0 : Int) ≤ (k : Int) := by omega
      have q5 : (k : Int) < (l.length : Int) := by omega
      clear hE
      by_cases y1 : l[k].2 < l[fsT l k].2
      · go_wp2_with fail
        all_goals
          go_quiet (fail)
          go_wp2
          go_roundw
          case rel => exact ⟨k + 1, by omega, by go_num, (by rw [HM1.out]; first | rfl | rw [if_pos (by omega)] | rw [if_neg (by omega)]), (by rw [HM2.out]; first | rfl | rw [if_pos (by omega)] | rw [if_neg (by omega)]), by rw [HF.out, if_pos (.inl y1)], by have hE := HE.out; repeat (first | exact kE | exact Ext.refl _ | apply Ext.alloc | apply Ext.drewN | apply Ext.drew | apply Ext.set0 | apply Ext.set1 | apply Ext.set2 | apply Ext.set3 | (refine Ext.setk ?_ (by omega) _) | (apply Ext.snoc; assumption))⟩
          case measure => simp [intOf]; omega
      · have y1' : decide (l[k].2 < l[fsT l k].2) = false := by simpa using y1
        have y1n : l[fsT l k].2 ≤ l[k].2 := by omega
        by_cases y2 : l[k].2 = l[fsT l k].2
        · have y2' : (l[k].2 == l[fsT l k].2) = true := by simpa using y2
          have HY := hide y2
          by_cases x1 : l[k].1 < l[fsT l k].1
          · clear y1 y2
            go_wp2_with fail
            all_goals
              go_quiet (fail)
              go_wp2
              go_roundw
              case rel => exact ⟨k + 1, by omega, by go_num, (by rw [HM1.out]; first | rfl | rw [if_pos (by omega)] | rw [if_neg (by omega)]), (by rw [HM2.out]; first | rfl | rw [if_pos (by omega)] | rw [if_neg (by omega)]), by rw [HF.out, if_pos (.inr ⟨HY.out, x1⟩)], by have hE := HE.out; repeat (first | exact kE | exact Ext.refl _ | apply Ext.alloc | apply Ext.drewN | apply Ext.drew | apply Ext.set0 | apply Ext.set1 | apply Ext.set2 | apply Ext.set3 | (refine Ext.setk ?_ (by omega) _) | (apply Ext.snoc; assumption))⟩
              case measure => simp [intOf]; omega
          · have x1' : decide (l[k].1 < l[fsT l k].1) = false := by simpa using x1
            clear y2
            go_wp2_with fail
            all_goals
              go_quiet (fail)
              go_wp2
              go_roundw
              case rel => exact ⟨k + 1, by omega, by go_num, (by rw [HM1.out]; first | rfl | rw [if_pos (by omega)] | rw [if_neg (by omega)]), (by rw [HM2.out]; first | rfl | rw [if_pos (by omega)] | rw [if_neg (by omega)]), by rw [HF.out, if_neg (by omega)], by have hE := HE.out; repeat (first | exact kE | exact Ext.refl _ | apply Ext.alloc | apply Ext.drewN | apply Ext.drew | apply Ext.set0 | apply Ext.set1 | apply Ext.set2 | apply Ext.set3 | (refine Ext.setk ?_ (by omega) _) | (apply Ext.snoc; assumption))⟩
              case measure => simp [intOf]; omega
        · have y2' : (l[k].2 == l[fsT l k].2) = false := by simpa using y2
          go_wp2_with fail
          all_goals
            go_quiet (fail)
            go_wp2
            go_roundw
            case rel => exact ⟨k + 1, by omega, by go_num, (by rw [HM1.out]; first | rfl | rw [if_pos (by omega)] | rw [if_neg (by omega)]), (by rw [HM2.out]; first | rfl | rw [if_pos (by omega)] | rw [if_neg (by omega)]), by rw [HF.out, if_neg (by omega)], by have hE := HE.out; repeat (first | exact kE | exact Ext.refl _ | apply Ext.alloc | apply Ext.drewN | apply Ext.drew | apply Ext.set0 | apply Ext.set1 | apply Ext.set2 | apply Ext.set3 | (refine Ext.setk ?_ (by omega) _) | (apply Ext.snoc; assumption))⟩
            case measure => simp [intOf]; omega
    · obtain rfl : k = l.length := by omega
      have HK := HE
      clear hE HE hfl
      obtain ⟨w2, rfl⟩ : ∃ w2 : World, w2 = wr := ⟨_, rfl⟩
      go_wp2_with fail
      have ho0 : (w2.alloc (.cells #[] 84)).ownsRow w2.heap.size 84 2 (.slice (some ⟨w2.heap.size, 0, none⟩) 0 0) 0 [] := World.ownsRow_lit (base := w2.heap.size) (e := 84) (size := 2) w2 #[] 0 (Nat.le_refl _) (Nat.zero_le _) rfl
      have HO0 := hide ho0
      clear ho0
      go_loopw [7, 8] (fun v i wr => ∃ k : Nat, k ≤ l.length ∧ i = .int .i64 k ∧ wr.ownsRow w2.heap.size 84 2 v k (enc2 (fitTo l k)) ∧ Ext w2 wr) (fun _ i _ => l.length - (intOf i).toNat)
      case atStart => exact ⟨0, Nat.zero_le _, rfl, HO0.out, (Ext.refl _).alloc _⟩
      case round =>
        obtain ⟨k, hk, rfl, hown, hE⟩ := hrel
        have HO := hide hown
        have HE := hide hE
        have hsz := hE.size
        have kE := HK.out.trans hE
        clear hown hE
        by_cases hlt : k < l.length
        · have hfl := fsT_lt h0 l.length (Nat.le_refl _)
          obtain ⟨j, hj⟩ : ∃ j, (fsT l l.length + k) % l.length = j := ⟨_, rfl⟩
          have hjl : j < l.length := by rw [← hj]; exact Nat.mod_lt _ h0
          have HA := hide (fitAt_eq hjl hj)
          have q0 : ((fsT l l.length : Int) + (k : Int)) % (l.length : Int) = (j : Int) := by rw [← hj]; push_cast; rfl
          clear hj
          have q1 : (j : Int) < (l.length : Int) := by omega
          have q2 : (0 : Int) ≤ (j : Int) := by omega
          have q3 : (fsT l l.length : Int) < (l.length : Int) := by omega
          have B := small_at HS.out hjl
          have B1 := mn1_small HS.out h0 l.length
          have B2 := mn2_small HS.out h0 l.length
          obtain ⟨b, off, hA, hb, e0, e1⟩ := R2.at_ (HR.out.ext kE) hjl
          injection hA with hA
          injection hA with hA1 hA2 _
          subst hA1 hA2
          go_wp2_with (at_builtin; refine wpList_append_own _ rfl _ _ 24 rfl w2.heap.size 84 i0 (.agg #[.int .i64 0, .int .i64 0]) 2 16 Tryz.underlying24 hi hz0 hz1 hz2 rfl (by decide) u7 k (enc2 (fitTo l k)) rfl (own_ext HO.out (by clear kE; repeat (first | exact kE | exact Ext.refl _ | apply Ext.alloc | apply Ext.drewN | apply Ext.drew | apply Ext.set0 | apply Ext.set1 | apply Ext.set2 | apply Ext.set3 | (refine Ext.setk ?_ (by omega) _) | (apply Ext.snoc; assumption)))) ⟨wr.heap.size + 1, 0, none⟩ 1 1 [.int .i64 (l[j].1 - mnF (·.1) l l.length), .int .i64 (l[j].2 - mnF (·.2) l l.length)] rfl rfl (by simpa using news_new (wr.alloc _) #[.int .i64 (l[j].1 - mnF (·.1) l l.length), .int .i64 (l[j].2 - mnF (·.2) l l.length)] 84) (one2 _ _) (by unfold maxLen; omega) (by omega) (by simp; omega) ?_; intro v' w4 hown4 hgrow4 hnil)
          have E4 := Ext.grown (show Ext w2 _ from ((HE.out.alloc _).alloc _)) hgrow4 (own_base HO.out (Nat.le_refl _))
          have HO4 := hide hown4
          clear hown4 hgrow4 hnil q0
          go_roundw
          case rel => exact ⟨k + 1, by omega, by go_num, by rw [fitTo_succ, HA.out, enc2_snoc]; exact HO4.out, E4⟩
          case measure => simp [intOf]; omega
        · obtain rfl : k = l.length := by omega
          obtain ⟨Ar, cr, rfl, _, _, _⟩ := own_slice HO.out
          go_wp2_with fail
          go_ret
          have hfl2 := fit_length l
          exact ⟨Ar, cr, congrArg (fun n => Ending.returned (.slice Ar n cr)) hfl2.symm, by rw [hfl2]; exact own_mono HO.out HK.out.size, kE⟩
end Go.Proofs.YtabgcpoaepafjaaGreat.Shp
namespace Go.Proofs.YtabgcpoaepafjaaGreat.Shp
open Go.RowKit
set_option maxRecDepth 100000 in
set_option maxHeartbeats 4000000 in
theorem TurnShape_any (l : List P2) (A : Option Addr) (c : Nat) (w : World) (hl : l.length ≤ 1048576) (hr : R2 w A l) :
    Calls Tryz.prog 93 #[.slice A l.length c] w fun e w' => ∃ Ar cr, e = .returned (.slice Ar (turnV l).length cr) ∧ w'.ownsRow w.heap.size 84 2 (.slice Ar (turnV l).length cr) (turnV l).length (enc2 (turnV l)) ∧ Ext w w' := by
  obtain ⟨i0, hi, hz0, hz1, hz2⟩ := info_parts append_info
  have HR := hide hr
  clear hr
  have HV : Hid (¬ (nodesOkB l = true ∧ 0 < l.length) → turnV l = []) := hide (fun h => by unfold turnV; rw [if_neg (by simpa using h)])
  have HV2 : Hid (nodesOkB l = true → 0 < l.length → turnV l = fit (turned l)) := hide (fun h h' => by unfold turnV; rw [if_pos (by simpa using ⟨h, h'⟩)])
  by_cases h0 : 0 < l.length
  · have hz0' : ((l.length : Int) == 0) = false := by rw [beq_eq_false_iff_ne]; omega
    go_enter Tryz.func93, Tryz.ntmps93
    go_wp2_with fail
    refine (nodesOk_any l A c _ hl HR.out).mono ?_; rintro e w1 ⟨rfl, hb1⟩
    have HE1 := hide hb1
    clear hb1
    by_cases h1 : nodesOkB l = true
    · go_wp2_with fail
      go_loopw [3, 16] (fun v i wr => ∃ k : Nat, k ≤ l.length ∧ i = .int .i64 k ∧ wr.ownsRow w1.heap.size 84 2 v k (enc2 (turned (l.take k))) ∧ Ext w1 wr) (fun _ i _ => l.length - (intOf i).toNat)
      case atStart => exact ⟨0, Nat.zero_le _, rfl, World.ownsRow_nil _ _ _ _, Ext.refl _⟩
      case round =>
        obtain ⟨k, hk, rfl, hown, hE⟩ := hrel
        have HO := hide hown
        have HE := hide hE
        have hsz := hE.size
        have kE := HE1.out.trans hE
        clear hown hE
        by_cases hlt : k < l.length
        · have Bk := nodesOkB_at h1 hlt
          have HA := hide (turned_succ l k hlt)
          obtain ⟨b, off, rfl, hb, e0, e1⟩ := R2.at_ (HR.out.ext kE) hlt
          go_wp2_with (at_builtin; refine wpList_append_own _ rfl _ _ 24 rfl w1.heap.size 84 i0 (.agg #[.int .i64 0, .int .i64 0]) 2 16 Tryz.underlying24 hi hz0 hz1 hz2 rfl (by decide) u3 k (enc2 (turned (l.take k))) rfl (own_ext HO.out (by clear kE; repeat (first | exact kE | exact Ext.refl _ | apply Ext.alloc | apply Ext.drewN | apply Ext.drew | apply Ext.set0 | apply Ext.set1 | apply Ext.set2 | apply Ext.set3 | (refine Ext.setk ?_ (by omega) _) | (apply Ext.snoc; assumption)))) ⟨wr.heap.size + 1, 0, none⟩ 1 1 [.int .i64 (-l[k].2), .int .i64 l[k].1] rfl rfl (by simpa using news_new (wr.alloc _) #[.int .i64 (-l[k].2), .int .i64 l[k].1] 84) (one2 _ _) (by unfold maxLen; omega) (by omega) (by simp; omega) ?_; intro v' w4 hown4 hgrow4 hnil)
          have E4 := Ext.grown (show Ext w1 _ from ((HE.out.alloc _).alloc _)) hgrow4 (own_base HO.out (Nat.le_refl _))
          have HO4 := hide hown4
          clear hown4 hgrow4 hnil
          go_roundw
          case rel => exact ⟨k + 1, by omega, by go_num, by rw [HA.out, enc2_snoc]; exact HO4.out, E4⟩
          case measure => simp [intOf]; (try omega)
        · obtain rfl : k = l.length := by omega
          obtain ⟨Ar, cr, rfl, _, _, _⟩ := own_slice HO.out
          have ho := HO.out
          rw [List.take_of_length_le (Nat.le_refl _)] at ho
          have hlen := turned_length l
          have HO2 : Hid (R2 wr Ar (turned l)) := hide (by have := Rds.of_own ho; rw [← hlen] at this; exact this)
          have HL := hide hlen
          rw [show Value.slice Ar l.length cr = Value.slice Ar (turned l).length cr by rw [hlen]]
          clear ho hlen
          go_wp2_with fail
          refine (begun_any (turned l) _ _ _ (by rw [HL.out]; exact hl) (by rw [HL.out]; exact h0) (turned_small h1) HO2.out).mono ?_; rintro e w5 ⟨Ar5, cr5, rfl, ho5, hb5⟩
          have HO5 := hide ho5
          have kE5 := kE.trans hb5
          clear ho5
          go_wp2_with fail
          go_ret
          rw [HV2.out h1 h0]
          exact ⟨_, _, rfl, own_mono HO5.out kE.size, kE5⟩
    · have h1' : nodesOkB l = false := by simpa using h1
      have e := HV.out (fun h => h1 h.1)
      clear h1
      go_wp2_with fail
      go_ret
      rw [e]
      exact ⟨none, 0, rfl, World.ownsRow_nil _ _ _ _, HE1.out⟩
  · have hz0' : ((l.length : Int) == 0) = true := by rw [beq_iff_eq]; omega
    have e := HV.out (fun h => h0 h.2)
    go_enter Tryz.func93, Tryz.ntmps93
    go_wp2_with fail
    go_ret
    rw [e]
    exact ⟨none, 0, rfl, World.ownsRow_nil _ _ _ _, Ext.refl _⟩
set_option maxRecDepth 100000 in
set_option maxHeartbeats 4000000 in
theorem sTurnShape_any (l : List P2) (A : Option Addr) (c : Nat) (w : World) (hl : l.length ≤ 1048576) (hr : R2 w A l) :
    Calls Tryz.prog 84 #[.slice A l.length c] w fun e w' => ∃ Ar cr, e = .returned (.slice Ar (turnV l).length cr) ∧ w'.ownsRow w.heap.size 84 2 (.slice Ar (turnV l).length cr) (turnV l).length (enc2 (turnV l)) ∧ Ext w w' := by
  obtain ⟨i0, hi, hz0, hz1, hz2⟩ := info_parts append_info
  have HR := hide hr
  clear hr
  have HV : Hid (¬ (nodesOkB l = true ∧ 0 < l.length) → turnV l = []) := hide (fun h => by unfold turnV; rw [if_neg (by simpa using h)])
  have HV2 : Hid (nodesOkB l = true → 0 < l.length → turnV l = fit (turned l)) := hide (fun h h' => by unfold turnV; rw [if_pos (by simpa using ⟨h, h'⟩)])
  go_enter Tryz.func84, Tryz.ntmps84
  go_wp2_with fail
  obtain ⟨w0, hw⟩ : ∃ w0, w0 = w.alloc (Obj.cells #[] 84) := ⟨_, rfl⟩
  have ho0 : w0.ownsRow w.heap.size 84 2 (.slice (some ⟨w.heap.size, 0, none⟩) 0 0) 0 [] := by rw [hw]; exact World.ownsRow_lit (base := w.heap.size) (e := 84) (size := 2) w #[] 0 (Nat.le_refl _) (Nat.zero_le _) rfl
  have HW0 : Hid (Ext w w0) := hide (by rw [hw]; repeat (first | exact kE | exact Ext.refl _ | apply Ext.alloc | apply Ext.drewN | apply Ext.drew | apply Ext.set0 | apply Ext.set1 | apply Ext.set2 | apply Ext.set3 | (refine Ext.setk ?_ (by omega) _) | (apply Ext.snoc; assumption)))
  rw [← hw]
  clear hw
  have HO0 := hide ho0
  clear ho0
  refine (l18Ok_any l A c _ hl (HR.out.ext HW0.out)).mono ?_; rintro e w1 ⟨rfl, hb1⟩
  have HE1 := hide hb1
  clear hb1
  by_cases h1 : (nodesOkB l && decide (0 < l.length)) = true
  · have h1a : nodesOkB l = true ∧ 0 < l.length := by simpa using h1
    obtain ⟨hn, h0⟩ := h1a
    go_wp2_with fail
    go_loopw [3, 4] (fun v i wr => ∃ k : Nat, k ≤ l.length ∧ i = .int .i64 k ∧ wr.ownsRow w.heap.size 84 2 v k (enc2 (turned (l.take k))) ∧ Ext w wr) (fun _ i _ => l.length - (intOf i).toNat)
    case atStart => exact ⟨0, Nat.zero_le _, rfl, own_ext HO0.out HE1.out, (HW0.out.trans HE1.out)⟩
    case round =>
      obtain ⟨k, hk, rfl, hown, hE⟩ := hrel
      have HO := hide hown
      have HE := hide hE
      have hsz := hE.size
      have kE := hE
      clear hown hE
      by_cases hlt : k < l.length
      · have Bk := nodesOkB_at hn hlt
        have HA := hide (turned_succ l k hlt)
        obtain ⟨b, off, rfl, hb, e0, e1⟩ := R2.at_ (HR.out.ext kE) hlt
        obtain ⟨b', off', hA', hb', _, _⟩ := R2.at_ (HR.out) hlt
        injection hA' with hA'
        injection hA' with hA1 hA2 _
        subst hA1 hA2
        have HNE : Hid (u3.ownBlock ≠ some b) := hide (fun e => by have := (HO.out.lt b e).1; omega)
        have q1 : (k : Int) < (l.length : Int) := by omega
        have q2 : (0 : Int) ≤ (k : Int) := by omega
        have q3 : IntKind.i64.wrap (-l[k].2) = -l[k].2 := IntWalk.i64_in _ (by omega)
        have hbz : w.heap.size ≤ wr.heap.size := kE.size
        go_wp2_with fail
        go_region_held3 (fun w' => w'.cell? ⟨b, off + k * 2, none⟩ = some (.int .i64 l[k].1) ∧ w'.cell? ⟨b, off + k * 2 + 1, none⟩ = some (.int .i64 l[k].2))
          (first | go_keep | (go_split_ands; refine ⟨?_, ?_⟩ <;> (rw [hgrow.cell_far _ (by simp; omega) (by first | exact fun e => HNE.out e.symm | exact HNE.out)]; assumption)))
          ((refine step_append_lies _ (by rfl) _ _ _ (by rfl) w.heap.size 84 i0 (.agg #[.int .i64 0, .int .i64 0]) 2 16 Tryz.underlying24 hi hz0 hz1 hz2 rfl (by omega) u3 k (enc2 (turned (l.take k))) (by rfl) ((own_ext HO.out ((Ext.refl _).alloc _)).drew) ⟨wr.heap.size, 0, none⟩ 1 1 [.int .i64 (-l[k].2), .int .i64 l[k].1] (by rfl) (by rfl) (World.news_of_block (cs := #[.int .i64 (-l[k].2), .int .i64 l[k].1]) (t := 84) (fr := (0, 0)) (heap_alloc_new wr _)) (one2 _ _) (by omega) (by unfold maxLen; omega) (by omega) (by simp; omega) (wr.heap.size + 1) (by simp) ?_; intro gg cap w4 hown4 hgrow hat hlt4))
        go_wp2
        have E4 := Ext.grown (show Ext w _ from (kE.alloc _).drew) hgrow (own_base HO.out (Nat.le_refl _))
        have HO4 := hide hown4
        clear hown4 hgrow hat hlt4 q3
        go_roundw
        case rel => exact ⟨k + 1, by omega, by go_num, by rw [HA.out, enc2_snoc]; exact HO4.out, E4⟩
        case measure => simp [intOf]; (try omega)
      · obtain rfl : k = l.length := by omega
        obtain ⟨Ar, cr, rfl, _, _, _⟩ := own_slice HO.out
        have ho := HO.out
        rw [List.take_of_length_le (Nat.le_refl _)] at ho
        have hlen := turned_length l
        have HO2 : Hid (R2 wr Ar (turned l)) := hide (by have := Rds.of_own ho; rw [← hlen] at this; exact this)
        have HL := hide hlen
        rw [show Value.slice Ar l.length cr = Value.slice Ar (turned l).length cr by rw [hlen]]
        clear ho hlen
        go_wp2_with fail
        refine (l18Fit_any (turned l) _ _ _ (by rw [HL.out]; exact hl) (by rw [HL.out]; exact h0) (turned_small hn) HO2.out).mono ?_; rintro e w5 ⟨Ar5, cr5, rfl, ho5, hb5⟩
        have HO5 := hide ho5
        have kE5 := kE.trans hb5
        clear ho5
        go_wp2_with fail
        go_ret
        rw [HV2.out hn h0]
        exact ⟨_, _, rfl, own_mono HO5.out kE.size, kE5⟩
  · have h1' : (nodesOkB l && decide (0 < l.length)) = false := by simpa using h1
    have e := HV.out (fun h => h1 (by simpa using h))
    clear h1
    have hx : ¬ (nodesOkB l = true ∧ 0 < l.length) := fun h => by rw [h.1, decide_eq_true h.2] at h1'; cases h1'
    rw [h1']
    clear h1'
    go_wp2_with fail
    go_ret
    rw [e]
    exact ⟨_, _, rfl, own_ext HO0.out HE1.out, HW0.out.trans HE1.out⟩
end Go.Proofs.YtabgcpoaepafjaaGreat.Shp
namespace Go.Proofs.YtabgcpoaepafjaaGreat.Shp
open Go.RowKit
def turnN (l : List P2) : Nat → List P2
  | 0 => l
  | k + 1 => turnV (turnN l k)
theorem turnN_length (l : List P2) (h : l.length ≤ 1048576) : ∀ k, (turnN l k).length ≤ 1048576
  | 0 => h
  | k + 1 => turnV_length _ (turnN_length l h k)
def alikeB (l m : List P2) : Bool := (List.range 4).any fun k => sameB l (turnN m (k + 1))
theorem alike_yes {l m : List P2} {k : Nat} (hk : k < 4) (h : sameB l (turnN m (k + 1)) = true) : alikeB l m = true := List.any_eq_true.2 ⟨k, List.mem_range.2 hk, h⟩
theorem alike_no {l m : List P2} (h : ∀ k, k < 4 → sameB l (turnN m (k + 1)) = false) : alikeB l m = false := by
  unfold alikeB
  rw [List.any_eq_false]
  intro k hk
  rw [h k (List.mem_range.1 hk)]
  simp
theorem AreAlike_any (l : List P2) (A : Option Addr) (c : Nat) (m : List P2) (B : Option Addr) (d : Nat) (w : World) (hl : l.length ≤ 1048576) (hm : m.length ≤ 1048576) (hr : R2 w A l) (hr' : R2 w B m) :
   Calls Tryz.prog 51 #[.slice A l.length c, .slice B m.length d] w fun e w' => e = .returned (.bool (alikeB l m)) ∧ Ext w w' := by
  have HR := hide hr
  have HR' := hide hr'
  clear hr hr'
  go_enter Tryz.func51, Tryz.ntmps51
  go_wp2_with fail
  go_loopw [1, 5] (fun t i wr => ∃ k : Nat, k ≤ 4 ∧ i = .int .i64 k ∧ (∃ B d, t = .slice B (turnN m k).length d ∧ R2 wr B (turnN m k)) ∧ Hid (∀ j, j < k → sameB l (turnN m (j + 1)) = false) ∧ Ext w wr) (fun _ i _ => 4 - (intOf i).toNat)
  case atStart => exact ⟨0, by omega, rfl, ⟨B, d, rfl, HR'.out⟩, hide (fun j hj => absurd hj (Nat.not_lt_zero j)), Ext.refl _⟩
  case round =>
    obtain ⟨k, hk, rfl, ⟨B, d, rfl, hb⟩, hp, hE⟩ := hrel
    have HB := hide hb
    clear hb
    have HE := hide hE
    by_cases hlt : k < 4
    · go_wp2_with fail
      refine (TurnShape_any (turnN m k) _ _ _ (turnN_length m hm k) HB.out).mono ?_; rintro e w1 ⟨B1, d1, rfl, ho, hb1⟩
      have HO := hide ho
      clear ho
      go_wp2_with fail
      refine (SameShape_any l _ _ (turnV (turnN m k)) _ _ _ hl (turnN_length m hm (k + 1)) (HR.out.ext (hE.trans hb1)) (Rds.of_own HO.out)).mono ?_; rintro e w2 ⟨rfl, hb2⟩
      have HE2 := hide (hE.trans (hb1.trans hb2))
      have HO2 := hide ((Rds.of_own HO.out).ext hb2)
      clear hE hb1 hb2
      by_cases hs : sameB l (turnV (turnN m k)) = true
      · have HS := hide hs
        go_wp2_with fail
        go_ret
        exact ⟨ret_bool (alike_yes (m := m) hlt HS.out).symm, HE2.out⟩
      · have hs' : sameB l (turnV (turnN m k)) = false := by simpa using hs
        have HS := hide hs'
        clear hs
        go_wp2_with fail
        clear hs'
        go_roundw
        case rel => exact ⟨k + 1, by omega, by go_num, ⟨_, _, rfl, HO2.out⟩, hide (fun j hj => by
          by_cases e : j = k
          · rw [e]; exact HS.out
          · exact hp.out j (by omega)), HE2.out⟩
        case measure => simp [intOf]; omega
    · obtain rfl : k = 4 := by omega
      go_wp2_with fail
      go_ret
      exact ⟨ret_bool (alike_no hp.out).symm, HE.out⟩
end Go.Proofs.YtabgcpoaepafjaaGreat.Shp
