/- Plain words for shapes that are moved to the lowest node: no program in sight. No condition. -/
import Derived.Test.YtlpononcpocmoaaShapeA
set_option linter.unusedSimpArgs false
set_option linter.unusedVariables false
namespace Go.Proofs.Ytlpononcpocmoaa
open Go.RowKit

/-- The least of a coordinate among the first k nodes (and the first of all). -/
def mnF (f : P2 → Int) (l : List P2) : Nat → Int
  | 0 => f (l.getD 0 (0, 0))
  | k + 1 => match l[k]? with | some p => if f p < mnF f l k then f p else mnF f l k | none => mnF f l k
/-- The place of the lowest, then leftmost, of the first k nodes. -/
def fsT (l : List P2) : Nat → Nat
  | 0 => 0
  | k + 1 => match l[k]?, l[fsT l k]? with
    | some p, some q => if p.2 < q.2 ∨ (p.2 = q.2 ∧ p.1 < q.1) then k else fsT l k
    | _, _ => fsT l k
theorem fsT_lt {l : List P2} (h : 0 < l.length) : ∀ k, k ≤ l.length → fsT l k < l.length
  | 0, _ => h
  | k + 1, hk => by
    have ih := fsT_lt h k (by omega)
    simp only [fsT]
    split
    · split
      · omega
      · exact ih
    · exact ih
theorem fsT_step {l : List P2} {k : Nat} (hk : k < l.length) (hf : fsT l k < l.length) : fsT l (k + 1) = if l[k].2 < l[fsT l k].2 ∨ (l[k].2 = l[fsT l k].2 ∧ l[k].1 < l[fsT l k].1) then k else fsT l k := by
  simp only [fsT, List.getElem?_eq_getElem hk, List.getElem?_eq_getElem hf]
theorem mnF_step (f : P2 → Int) {l : List P2} {k : Nat} (hk : k < l.length) : mnF f l (k + 1) = if f l[k] < mnF f l k then f l[k] else mnF f l k := by
  simp only [mnF, List.getElem?_eq_getElem hk]
theorem mnF_zero (f : P2 → Int) {l : List P2} (h : 0 < l.length) : mnF f l 0 = f l[0] := by
  simp [mnF, h]
theorem mnF_in {f : P2 → Int} {l : List P2} {lo hi : Int} (h : 0 < l.length) (hb : ∀ p ∈ l, lo ≤ f p ∧ f p ≤ hi) : ∀ k, lo ≤ mnF f l k ∧ mnF f l k ≤ hi
  | 0 => by
    rw [mnF_zero f h]
    exact hb _ (List.getElem_mem h)
  | k + 1 => by
    have ih := mnF_in h hb k
    simp only [mnF]
    split
    · rename_i p hp
      have := hb p (List.mem_of_getElem? hp)
      split <;> omega
    · exact ih
def fitAt (l : List P2) (i : Nat) : P2 :=
  let p := l.getD ((fsT l l.length + i) % l.length) (0, 0)
  (p.1 - mnF (·.1) l l.length, p.2 - mnF (·.2) l l.length)
/-- The nodes from the lowest on, moved so that the least numbers are 0. -/
def fit (l : List P2) : List P2 := (List.range l.length).map (fitAt l)
theorem fit_length (l : List P2) : (fit l).length = l.length := by simp [fit]
def fitTo (l : List P2) (k : Nat) : List P2 := (List.range k).map (fitAt l)
theorem fitTo_succ (l : List P2) (k : Nat) : fitTo l (k + 1) = fitTo l k ++ [fitAt l k] := by simp [fitTo, List.range_succ]
theorem fitTo_length (l : List P2) (k : Nat) : (fitTo l k).length = k := by simp [fitTo]
theorem fitAt_eq {l : List P2} {i j : Nat} (hj : j < l.length) (e : (fsT l l.length + i) % l.length = j) : fitAt l i = (l[j].1 - mnF (·.1) l l.length, l[j].2 - mnF (·.2) l l.length) := by
  subst e
  unfold fitAt
  simp [hj]
/-- All numbers are small. -/
def small (l : List P2) : Prop := ∀ p ∈ l, -1000 ≤ p.1 ∧ p.1 ≤ 1000 ∧ -1000 ≤ p.2 ∧ p.2 ≤ 1000
theorem small_at {l : List P2} (h : small l) {k : Nat} (hk : k < l.length) : -1000 ≤ l[k].1 ∧ l[k].1 ≤ 1000 ∧ -1000 ≤ l[k].2 ∧ l[k].2 ≤ 1000 := h _ (List.getElem_mem hk)
theorem mn1_small {l : List P2} (h : small l) (h0 : 0 < l.length) (k : Nat) : -1000 ≤ mnF (·.1) l k ∧ mnF (·.1) l k ≤ 1000 := mnF_in h0 (fun p hp => ⟨(h p hp).1, (h p hp).2.1⟩) k
theorem mn2_small {l : List P2} (h : small l) (h0 : 0 < l.length) (k : Nat) : -1000 ≤ mnF (·.2) l k ∧ mnF (·.2) l k ≤ 1000 := mnF_in h0 (fun p hp => ⟨(h p hp).2.2.1, (h p hp).2.2.2⟩) k
def turned (l : List P2) : List P2 := l.map fun p => (-p.2, p.1)
def mirrored (l : List P2) : List P2 := (l.map fun p => (-p.1, p.2)).reverse
def turnV (l : List P2) : List P2 := if nodesOkB l && decide (0 < l.length) then fit (turned l) else []
def mirrorV (l : List P2) : List P2 := if nodesOkB l && decide (0 < l.length) then fit (mirrored l) else []
theorem turned_small {l : List P2} (h : nodesOkB l = true) : small (turned l) := by
  intro p hp
  obtain ⟨q, hq, rfl⟩ := List.mem_map.1 hp
  have := nodeOk_true (List.all_eq_true.1 h q hq)
  simp only
  omega
theorem mirrored_small {l : List P2} (h : nodesOkB l = true) : small (mirrored l) := by
  intro p hp
  obtain ⟨q, hq, rfl⟩ := List.mem_map.1 (List.mem_reverse.1 hp)
  have := nodeOk_true (List.all_eq_true.1 h q hq)
  simp only
  omega
theorem turned_length (l : List P2) : (turned l).length = l.length := by simp [turned]
theorem mirrored_length (l : List P2) : (mirrored l).length = l.length := by simp [mirrored]
theorem turnV_length (l : List P2) (h : l.length ≤ 1048576) : (turnV l).length ≤ 1048576 := by
  unfold turnV
  split
  · rw [fit_length, turned_length]; exact h
  · exact Nat.zero_le _
theorem mirrorV_length (l : List P2) (h : l.length ≤ 1048576) : (mirrorV l).length ≤ 1048576 := by
  unfold mirrorV
  split
  · rw [fit_length, mirrored_length]; exact h
  · exact Nat.zero_le _
theorem turned_succ (l : List P2) (k : Nat) (h : k < l.length) : turned (l.take (k + 1)) = turned (l.take k) ++ [(-l[k].2, l[k].1)] := by
  unfold turned
  rw [List.take_succ_eq_append_getElem h]; simp only [List.map_append, List.map_cons, List.map_nil]
/-- The first k of the mirrored nodes. -/
def mirTo (l : List P2) (k : Nat) : List P2 := (mirrored l).take k
theorem mirTo_succ (l : List P2) (k : Nat) (h : k < l.length) : mirTo l (k + 1) = mirTo l k ++ [(-l[l.length - 1 - k].1, l[l.length - 1 - k].2)] := by
  unfold mirTo
  rw [List.take_succ_eq_append_getElem (by rw [mirrored_length]; exact h)]
  congr 2
  simp [mirrored, List.getElem_reverse]
theorem mirTo_all (l : List P2) : mirTo l l.length = mirrored l := List.take_of_length_le (by rw [mirrored_length]; exact Nat.le_refl _)
theorem mirTo_length (l : List P2) (k : Nat) (h : k ≤ l.length) : (mirTo l k).length = k := by simp [mirTo, mirrored_length]; omega
theorem enc2_snoc (l : List P2) (p : P2) : enc2 (l ++ [p]) = enc2 l ++ [.int .i64 p.1, .int .i64 p.2] := by rw [enc2_append]; rfl
end Go.Proofs.Ytlpononcpocmoaa
