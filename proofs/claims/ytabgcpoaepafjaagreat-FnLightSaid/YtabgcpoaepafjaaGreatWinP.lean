/- Plain law on the reference's five shapes of windows: the first four are whole (no program in sight). No condition. -/
import Derived.Test.YtabgcpoaepafjaaGreatFaces
set_option linter.unusedSimpArgs false
set_option linter.unusedVariables false
namespace Go.Proofs.YtabgcpoaepafjaaGreat

def shN (k : Nat) : List P2 := if k = 0 then [(0, 0), (8, 0), (8, 8), (0, 8), (4, 4)] else if k = 1 then [(0, 0), (12, 0), (4, 12), (4, 3), (7, 3), (5, 6)]
  else if k = 2 then [(0, 0), (4, 0), (8, 0), (12, 0), (0, 5), (4, 5), (8, 5), (12, 5), (0, 9), (4, 9), (8, 9), (12, 9)]
  else if k = 3 then [(6, 6), (6, 0), (12, 4), (10, 11), (2, 11), (0, 4)] else [(0, 0), (3, 0), (3, 3), (0, 3), (6, 1), (9, 1), (9, 5), (6, 5)]
def shE (k : Nat) : List P2 := if k = 0 then [(0, 1), (1, 2), (2, 3), (0, 3), (0, 4), (1, 4), (2, 4), (3, 4)] else if k = 1 then [(0, 1), (1, 2), (0, 2), (3, 4), (4, 5), (3, 5), (0, 3)]
  else if k = 2 then [(0, 1), (1, 2), (2, 3), (4, 5), (5, 6), (6, 7), (8, 9), (9, 10), (10, 11), (0, 4), (1, 5), (2, 6), (3, 7), (4, 8), (5, 9), (6, 10), (7, 11)]
  else if k = 3 then [(0, 1), (0, 2), (0, 3), (0, 4), (0, 5), (1, 2), (2, 3), (3, 4), (4, 5), (1, 5)] else [(0, 1), (1, 2), (2, 3), (0, 3), (4, 5), (5, 6), (6, 7), (4, 7)]
def allTo (n : Nat) (p : Nat → Bool) : Bool := (List.range n).all p
theorem allTo_iff {n : Nat} {p : Nat → Bool} : allTo n p = true ↔ ∀ i, i < n → p i = true := by simp [allTo]
def winT (N E : List P2) : Bool := decide (1 ≤ N.length ∧ N.length ≤ 12) && decide (E.length ≤ 20) &&
  allTo N.length (fun j => nodeOk (at2 N j) && allTo j fun i => !decide (at2 N i = at2 N j)) &&
  allTo E.length (fun j => leadOk N (at2 E j) && allTo j (fun i => !crossB N (at2 E i) (at2 E j)) && allTo N.length fun i => decide ((i : Int) = (at2 E j).1) || decide ((i : Int) = (at2 E j).2) || !onLead N (at2 E j) (at2 N i))
theorem winT_ok {N E : List P2} (h : winT N E = true) : WinOk N E := by
  unfold winT at h
  simp only [Bool.and_eq_true, decide_eq_true_eq, allTo_iff, Bool.not_eq_true', decide_eq_false_iff_not, Bool.or_eq_true] at h
  obtain ⟨⟨⟨h1, h2⟩, h3⟩, h4⟩ := h
  refine ⟨h1, h2, fun j hj => h3 j hj, fun j hj => ?_⟩
  obtain ⟨⟨a, b⟩, c⟩ := h4 j hj
  refine ⟨a, b, fun i hi n1 n2 => ?_⟩
  rcases c i hi with (q | q) | q
  · exact absurd q n1
  · exact absurd q n2
  · exact q
def wholeT (N E : List P2) : Bool := winT N E && decide (0 < E.length) && decide ((memN (it (spreadTo E E.length) N.length 1) N.length).length = N.length)
theorem wholeT_ok {N E : List P2} (h : wholeT N E = true) : wholeB N E = true := by
  unfold wholeT at h
  simp only [Bool.and_eq_true, decide_eq_true_eq] at h
  obtain ⟨⟨h1, h2⟩, h3⟩ := h
  have hw := winT_ok h1
  refine wholeB_iff.2 ⟨hw, h2, (whole_spread (by have := hw.n; omega) fun j hj => ?_).1 h3⟩
  have hl := (leadOk_iff.1 (hw.leads j hj).1).1
  omega
theorem sh_whole {k : Nat} (h : k < 4) : wholeB (shN k) (shE k) = true := by
  apply wholeT_ok
  match k, h with
  | 0, _ => decide +kernel
  | 1, _ => decide +kernel
  | 2, _ => decide +kernel
  | 3, _ => decide +kernel
theorem sh_win {k : Nat} (h : k < 5) : WinOk (shN k) (shE k) := by
  apply winT_ok
  match k, h with
  | 0, _ => decide +kernel
  | 1, _ => decide +kernel
  | 2, _ => decide +kernel
  | 3, _ => decide +kernel
  | 4, _ => decide +kernel
theorem sh_size {k : Nat} (h : k < 5) : 5 ≤ (shN k).length ∧ 7 ≤ (shE k).length ∧ (shE k).length ≤ (shN k).length + 5 ∧ (shN k).length ≤ 12 := by
  match k, h with
  | 0, _ => decide
  | 1, _ => decide
  | 2, _ => decide
  | 3, _ => decide
  | 4, _ => decide
end Go.Proofs.YtabgcpoaepafjaaGreat
