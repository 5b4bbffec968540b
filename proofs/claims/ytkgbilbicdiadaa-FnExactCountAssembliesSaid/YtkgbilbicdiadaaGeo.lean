/- Plain law on windows: nodes, leads, what makes a window whole in its parts, darts around a node (no program in sight). No condition. -/
import Derived.Test.YtkgbilbicdiadaaOrbit
import Derived.Test.YtkgbilbicdiadaaArgs
set_option linter.unusedSimpArgs false
set_option linter.unusedVariables false
namespace Go.Proofs.Ytkgbilbicdiadaa

def nodeOk (p : P2) : Bool := inR p.1 0 20 && inR p.2 0 20
theorem nodeOk_iff {p : P2} : nodeOk p = true ↔ (0 ≤ p.1 ∧ p.1 ≤ 20) ∧ 0 ≤ p.2 ∧ p.2 ≤ 20 := by simp [nodeOk, inR]
def turnN (a b c : P2) : Int := (b.1 - a.1) * (c.2 - a.2) - (b.2 - a.2) * (c.1 - a.1)
theorem mul_in {x y m n : Int} (hm : 0 ≤ m) (hn : 0 ≤ n) (hx : -m ≤ x ∧ x ≤ m) (hy : -n ≤ y ∧ y ≤ n) : -(m * n) ≤ x * y ∧ x * y ≤ m * n := by
  have h : x.natAbs * y.natAbs ≤ m.natAbs * n.natAbs := Nat.mul_le_mul (by omega) (by omega)
  rw [← Int.natAbs_mul, ← Int.natAbs_mul] at h
  have h2 : 0 ≤ m * n := Int.mul_nonneg hm hn
  omega
theorem turn_in {a b c : P2} (ha : nodeOk a = true) (hb : nodeOk b = true) (hc : nodeOk c = true) : -800 ≤ turnN a b c ∧ turnN a b c ≤ 800 := by
  rw [nodeOk_iff] at ha hb hc
  have h1 := mul_in (x := b.1 - a.1) (y := c.2 - a.2) (m := 20) (n := 20) (by omega) (by omega) (by omega) (by omega)
  have h2 := mul_in (x := b.2 - a.2) (y := c.1 - a.1) (m := 20) (n := 20) (by omega) (by omega) (by omega) (by omega)
  unfold turnN
  omega
/-- c lies between a and b. -/
def betw (a b c : P2) : Bool := nodeOk a && nodeOk b && nodeOk c && !decide (a = b) && !decide (a = c) && !decide (b = c) && decide (turnN a b c = 0) && inR c.1 (min a.1 b.1) (max a.1 b.1) && inR c.2 (min a.2 b.2) (max a.2 b.2)
def halfP (a b : P2) : Int := if a.2 < b.2 ∨ (b.2 = a.2 ∧ a.1 < b.1) then 0 else 1
theorem halfP_in (a b : P2) : halfP a b = 0 ∨ halfP a b = 1 := by unfold halfP; split <;> simp
def befN (a b c : P2) : Bool := nodeOk a && nodeOk b && nodeOk c && (decide (halfP a b < halfP a c) || (decide (halfP a b = halfP a c) && decide (0 < turnN a b c)))
theorem befN_self (a b : P2) : befN a b b = false := by
  have h : turnN a b b = 0 := by unfold turnN; rw [Int.mul_comm]; omega
  simp [befN, h]
/-- Element i of a list of pairs. -/
def at2 (l : List P2) (i : Int) : P2 := l.getD i.toNat (0, 0)
theorem at2_eq {l : List P2} {k : Nat} (h : k < l.length) : at2 l k = l[k] := by simp [at2, h]
def leadOk (N : List P2) (e : P2) : Bool := decide (0 ≤ e.1) && decide (e.1 < e.2) && decide (e.2 < N.length) && nodeOk (at2 N e.1) && nodeOk (at2 N e.2) && !decide (at2 N e.1 = at2 N e.2)
theorem leadOk_iff {N : List P2} {e : P2} : leadOk N e = true ↔ (0 ≤ e.1 ∧ e.1 < e.2 ∧ e.2 < N.length) ∧ nodeOk (at2 N e.1) = true ∧ nodeOk (at2 N e.2) = true ∧ at2 N e.1 ≠ at2 N e.2 := by
  simp only [leadOk, Bool.and_eq_true, decide_eq_true_eq, Bool.not_eq_true', decide_eq_false_iff_not, and_assoc, ne_eq]
def onN (a b n : P2) : Bool := decide (n = a) || decide (n = b) || betw a b n
def onLead (N : List P2) (e n : P2) : Bool := leadOk N e && onN (at2 N e.1) (at2 N e.2) n
def crossN (a b u v : P2) : Bool := (decide (a = u) && decide (b = v)) || (decide (a = v) && decide (b = u)) || betw a b u || betw a b v || betw u v a || betw u v b || (decide (turnN a b u * turnN a b v < 0) && decide (turnN u v a * turnN u v b < 0))
def crossB (N : List P2) (e f : P2) : Bool := leadOk N e && leadOk N f && crossN (at2 N e.1) (at2 N e.2) (at2 N f.1) (at2 N f.2)
theorem crossN_comm (a b u v : P2) : crossN a b u v = crossN u v a b := by
  unfold crossN
  have e1 : decide (a = u) = decide (u = a) := by rw [decide_eq_decide]; exact eq_comm
  have e2 : decide (b = v) = decide (v = b) := by rw [decide_eq_decide]; exact eq_comm
  have e3 : decide (a = v) = decide (v = a) := by rw [decide_eq_decide]; exact eq_comm
  have e4 : decide (b = u) = decide (u = b) := by rw [decide_eq_decide]; exact eq_comm
  rw [e1, e2, e3, e4]
  cases decide (u = a) <;> cases decide (v = b) <;> cases decide (v = a) <;> cases decide (u = b) <;> cases betw a b u <;> cases betw a b v <;> cases betw u v a <;> cases betw u v b <;> simp [Bool.and_comm]
theorem crossB_comm (N : List P2) (e f : P2) : crossB N e f = crossB N f e := by
  unfold crossB
  rw [crossN_comm, Bool.and_comm (leadOk N e)]
/-- The nodes below k are nodes, no two alike. -/
def NodesTo (N : List P2) (k : Nat) : Prop := ∀ j, j < k → nodeOk (at2 N j) = true ∧ ∀ i, i < j → at2 N i ≠ at2 N j
/-- The leads below k are leads; no two cross; no other node lies on one. -/
def LeadsTo (N E : List P2) (k : Nat) : Prop := ∀ j, j < k → leadOk N (at2 E j) = true ∧ (∀ i, i < j → crossB N (at2 E i) (at2 E j) = false) ∧ ∀ i : Nat, i < N.length → (i : Int) ≠ (at2 E j).1 → (i : Int) ≠ (at2 E j).2 → onLead N (at2 E j) (at2 N i) = false
structure WinOk (N E : List P2) : Prop where
  n : 1 ≤ N.length ∧ N.length ≤ 12
  m : E.length ≤ 20
  nodes : NodesTo N N.length
  leads : LeadsTo N E E.length
open Classical in
noncomputable def windowB (N E : List P2) : Bool := decide (WinOk N E)
theorem windowB_iff {N E : List P2} : windowB N E = true ↔ WinOk N E := by simp [windowB]
theorem windowB_no {N E : List P2} (h : ¬ WinOk N E) : windowB N E = false := by simp [windowB, h]

/-- Where dart d begins. -/
def fromN (E : List P2) (d : Nat) : Int := if d % 2 = 0 then (at2 E (d / 2 : Nat)).1 else (at2 E (d / 2 : Nat)).2
def twin (d : Nat) : Nat := if d % 2 = 0 then d + 1 else d - 1
theorem twin_twin (d : Nat) : twin (twin d) = d := by unfold twin; split <;> split <;> omega
theorem twin_half (d : Nat) : twin d / 2 = d / 2 := by unfold twin; split <;> omega
theorem twin_lt {d m : Nat} (h : d < 2 * m) : twin d < 2 * m := by unfold twin; split <;> omega
theorem twin_ne (d : Nat) : twin d ≠ d := by unfold twin; split <;> omega
theorem twin_xor (d : Nat) : d ^^^ 1 = twin d := by
  have h1 : (d ^^^ 1) % 2 = (d + 1) % 2 := by have := @Nat.xor_mod_two_eq_one d 1; omega
  have h2 : (d ^^^ 1) / 2 = d / 2 := by
    refine Nat.eq_of_testBit_eq fun i => ?_
    rw [← Nat.testBit_succ, Nat.testBit_xor, ← Nat.testBit_succ]
    have : Nat.testBit 1 (i + 1) = false := by rw [Nat.testBit_succ]; simp
    rw [this, Bool.xor_false]
  unfold twin
  split <;> omega
theorem WinOk.ends {N E : List P2} (h : WinOk N E) {d : Nat} (hd : d < 2 * E.length) : 0 ≤ fromN E d ∧ fromN E d < N.length ∧ nodeOk (at2 N (fromN E d)) = true := by
  have h1 := leadOk_iff.1 (h.leads (d / 2) (by omega)).1
  unfold fromN
  split
  · exact ⟨by omega, by omega, h1.2.1⟩
  · exact ⟨by omega, by omega, h1.2.2.1⟩
theorem WinOk.ends_ne {N E : List P2} (h : WinOk N E) {d : Nat} (hd : d < 2 * E.length) : fromN E d ≠ fromN E (twin d) := by
  have h1 := (leadOk_iff.1 (h.leads (d / 2) (by omega)).1).1
  unfold fromN
  rw [twin_half]
  unfold twin
  split <;> split <;> omega
theorem WinOk.node {N E : List P2} (h : WinOk N E) {i : Int} (h0 : 0 ≤ i) (h1 : i < N.length) : nodeOk (at2 N i) = true := by
  have := (h.nodes i.toNat (by omega)).1
  rwa [Int.toNat_of_nonneg h0] at this
theorem WinOk.node_inj {N E : List P2} (h : WinOk N E) {i j : Int} (h0 : 0 ≤ i) (h1 : i < N.length) (h2 : 0 ≤ j) (h3 : j < N.length) (e : at2 N i = at2 N j) : i = j := by
  rcases Int.lt_trichotomy i j with hlt | he | hlt
  · have := (h.nodes j.toNat (by omega)).2 i.toNat (by omega)
    rw [Int.toNat_of_nonneg h0, Int.toNat_of_nonneg h2] at this
    exact absurd e this
  · exact he
  · have := (h.nodes i.toNat (by omega)).2 j.toNat (by omega)
    rw [Int.toNat_of_nonneg h0, Int.toNat_of_nonneg h2] at this
    exact absurd e.symm this
/-- No two leads join the same nodes. -/
theorem WinOk.lead_inj {N E : List P2} (h : WinOk N E) {i j : Nat} (hi : i < E.length) (hj : j < E.length) (e : at2 E i = at2 E j) : i = j := by
  have key : ∀ a b, a < b → b < E.length → at2 E a ≠ at2 E b := by
    intro a b hab hb e
    have h1 := (h.leads b hb).2.1 a hab
    rw [e] at h1
    have h2 := (h.leads b hb).1
    simp [crossB, h2, crossN] at h1
  rcases Nat.lt_trichotomy i j with hlt | he | hlt
  · exact absurd e (key i j hlt hj)
  · exact he
  · exact absurd e.symm (key j i hlt hi)
theorem WinOk.dart_inj {N E : List P2} (h : WinOk N E) {d e : Nat} (hd : d < 2 * E.length) (he : e < 2 * E.length) (h1 : fromN E d = fromN E e) (h2 : fromN E (twin d) = fromN E (twin e)) : d = e := by
  have hd1 := (leadOk_iff.1 (h.leads (d / 2) (by omega)).1).1
  have he1 := (leadOk_iff.1 (h.leads (e / 2) (by omega)).1).1
  have key : d / 2 = e / 2 ∧ d % 2 = e % 2 := by
    unfold fromN at h1 h2
    rw [twin_half, twin_half] at h2
    have t1 : twin d % 2 = 1 - d % 2 := by unfold twin; split <;> omega
    have t2 : twin e % 2 = 1 - e % 2 := by unfold twin; split <;> omega
    rw [t1, t2] at h2
    rcases Nat.mod_two_eq_zero_or_one d with a | a <;> rcases Nat.mod_two_eq_zero_or_one e with b | b <;> simp only [a, b, Nat.sub_zero, Nat.sub_self, Nat.one_ne_zero, if_true, if_false] at h1 h2
    · exact ⟨h.lead_inj (by omega) (by omega) (Prod.ext h1 h2), by omega⟩
    · omega
    · omega
    · exact ⟨h.lead_inj (by omega) (by omega) (Prod.ext h2 h1), by omega⟩
  omega
/-- v is put into a list that is turned round: behind all that it is not less than. -/
def insR (lt : Nat → Nat → Bool) (v : Nat) : List Nat → List Nat
  | [] => [v]
  | x :: t => if lt v x then x :: insR lt v t else v :: x :: t
theorem insR_perm (lt : Nat → Nat → Bool) (v : Nat) : ∀ r, (insR lt v r).Perm (v :: r)
  | [] => .refl _
  | x :: t => by
    simp only [insR]
    split
    · exact ((insR_perm lt v t).cons x).trans (.swap _ _ _)
    · exact .refl _
/-- The order of darts around the node where they begin. -/
def ltD (N E : List P2) (k : Int) (d e : Nat) : Bool := befN (at2 N k) (at2 N (fromN E (twin d))) (at2 N (fromN E (twin e)))
/-- The darts below n that begin at node k, the last first. -/
def arR (N E : List P2) (k : Int) : Nat → List Nat
  | 0 => []
  | n + 1 => if fromN E n = k then insR (ltD N E k) n (arR N E k n) else arR N E k n
def aroundL (N E : List P2) (k : Int) : List Nat := (arR N E k (2 * E.length)).reverse
/-- The darts below n that begin at node k, in the order of their numbers. -/
def dartsAt (E : List P2) (k : Int) (n : Nat) : List Nat := (List.range n).filter fun d => fromN E d == k
theorem dartsAt_succ (E : List P2) (k : Int) (n : Nat) : dartsAt E k (n + 1) = if fromN E n = k then dartsAt E k n ++ [n] else dartsAt E k n := by
  unfold dartsAt
  rw [List.range_succ, List.filter_append]
  by_cases h : fromN E n = k <;> simp [h]
theorem arR_perm (N E : List P2) (k : Int) : ∀ n, (arR N E k n).Perm (dartsAt E k n)
  | 0 => .refl _
  | n + 1 => by
    rw [dartsAt_succ]
    simp only [arR]
    split
    · exact (insR_perm _ _ _).trans (((arR_perm N E k n).cons n).trans (List.perm_append_singleton n _).symm)
    · exact arR_perm N E k n
theorem around_perm (N E : List P2) (k : Int) : (aroundL N E k).Perm (dartsAt E k (2 * E.length)) := (List.reverse_perm _).trans (arR_perm N E k _)
theorem around_mem {N E : List P2} {k : Int} {d : Nat} : d ∈ aroundL N E k ↔ d < 2 * E.length ∧ fromN E d = k := by
  rw [(around_perm N E k).mem_iff]
  simp [dartsAt]
theorem around_nodup (N E : List P2) (k : Int) : (aroundL N E k).Nodup := (around_perm N E k).nodup_iff.2 ((List.nodup_range).filter _)
/-- At most twelve darts begin at a node. -/
theorem WinOk.degree {N E : List P2} (h : WinOk N E) (k : Int) (n : Nat) (hn : n ≤ 2 * E.length) : (dartsAt E k n).length ≤ 12 := by
  have h1 : ((dartsAt E k n).map fun d => (fromN E (twin d)).toNat).Nodup := by
    rw [List.nodup_iff_pairwise_ne, List.pairwise_map]
    have h2 : (dartsAt E k n).Nodup := (List.nodup_range).filter _
    refine List.Pairwise.imp_of_mem ?_ (List.nodup_iff_pairwise_ne.1 h2)
    intro a b ha hb hne e
    simp only [dartsAt, List.mem_filter, List.mem_range, beq_iff_eq] at ha hb
    have h3 := h.ends (twin_lt (show a < 2 * E.length by omega))
    have h4 := h.ends (twin_lt (show b < 2 * E.length by omega))
    exact hne (h.dart_inj (by omega) (by omega) (ha.2.trans hb.2.symm) (by omega))
  have h5 := nodup_len 12 _ h1 fun x hx => by
    obtain ⟨d, hd, rfl⟩ := List.mem_map.1 hx
    simp only [dartsAt, List.mem_filter, List.mem_range, beq_iff_eq] at hd
    have h3 := h.ends (twin_lt (show d < 2 * E.length by omega))
    have := h.n
    omega
  simpa using h5
theorem getD_mem {l : List Nat} {k : Nat} (h : k < l.length) : l.getD k 0 ∈ l := by
  have e : l.getD k 0 = l[k] := by simp [h]
  rw [e]
  exact List.getElem_mem _
theorem getD_inj {l : List Nat} (hn : l.Nodup) {i j : Nat} (hi : i < l.length) (hj : j < l.length) (q : l.getD i 0 = l.getD j 0) : i = j := by
  have e : l.getD i 0 = l[i] := by simp [hi]
  have f : l.getD j 0 = l[j] := by simp [hj]
  rw [e, f] at q
  have key := List.pairwise_iff_getElem.1 (List.nodup_iff_pairwise_ne.1 hn)
  rcases Nat.lt_trichotomy i j with h | h | h
  · exact absurd q (key i j hi hj h)
  · exact h
  · exact absurd q.symm (key j i hj hi h)
/-- The element of l some places after d. -/
def stepIn (l : List Nat) (d : Nat) (y : Int) : Nat := l.getD ((((l.idxOf d : Nat) : Int) + y + l.length) % l.length).toNat 0
/-- The dart some places after d around its node. -/
def besideN (N E : List P2) (d : Nat) (y : Int) : Nat := stepIn (aroundL N E (fromN E d)) d y
theorem step_at {l : List Nat} {d : Nat} (hm : d ∈ l) (y : Int) : l.idxOf d < l.length ∧ 0 ≤ (((l.idxOf d : Nat) : Int) + y + l.length) % l.length ∧ (((l.idxOf d : Nat) : Int) + y + l.length) % l.length < l.length := by
  have h1 : l.idxOf d < l.length := List.idxOf_lt_length_of_mem hm
  exact ⟨h1, Int.emod_nonneg _ (by omega), Int.emod_lt_of_pos _ (by omega)⟩
theorem step_mem {l : List Nat} {d : Nat} (hm : d ∈ l) (y : Int) : stepIn l d y ∈ l := by
  have h := step_at hm y
  exact getD_mem (by omega)
theorem mod_step {n a b : Nat} (ha : a < n) (hb : b < n) (q : ((a : Int) + -1 + n) % n = ((b : Int) + -1 + n) % n) : a = b := by
  have key : ∀ c : Nat, c < n → ((c : Int) + -1 + n) % n = if c = 0 then (n : Int) - 1 else c - 1 := by
    intro c hc
    split
    · have e : (c : Int) + -1 + n = n - 1 := by omega
      rw [e]
      exact Int.emod_eq_of_lt (by omega) (by omega)
    · rw [Int.add_emod_right]
      exact (Int.emod_eq_of_lt (by omega) (by omega)).trans (by omega)
  rw [key a ha, key b hb] at q
  split at q <;> split at q <;> omega
theorem step_inj {l : List Nat} (hn : l.Nodup) {d e : Nat} (hd : d ∈ l) (he : e ∈ l) (q : stepIn l d (-1) = stepIn l e (-1)) : d = e := by
  have a := step_at hd (-1)
  have b := step_at he (-1)
  have q2 := getD_inj hn (by omega) (by omega) q
  have q3 : l.idxOf d = l.idxOf e := mod_step a.1 b.1 (by omega)
  have g1 := List.getElem_idxOf (List.idxOf_lt_length_of_mem hd)
  have g2 := List.getElem_idxOf (List.idxOf_lt_length_of_mem he)
  rw [← g1, ← g2]
  congr 1
theorem beside_mem {N E : List P2} {d : Nat} (hd : d < 2 * E.length) (y : Int) : besideN N E d y ∈ aroundL N E (fromN E d) := step_mem (around_mem.2 ⟨hd, rfl⟩) y
def nextN (N E : List P2) (d : Nat) : Nat := besideN N E (twin d) (-1)
theorem next_inj (N E : List P2) : Inj (nextN N E) (2 * E.length) where
  lt d hd := (around_mem.1 (beside_mem (twin_lt hd) (-1))).1
  inj d e hd he q := by
    have h1 := (around_mem.1 (beside_mem (N := N) (twin_lt hd) (-1))).2
    have h2 := (around_mem.1 (beside_mem (N := N) (twin_lt he) (-1))).2
    unfold nextN at q
    rw [q] at h1
    have h3 : fromN E (twin d) = fromN E (twin e) := h1.symm.trans h2
    unfold besideN at q
    rw [h3] at q
    have g3 : twin d = twin e := step_inj (around_nodup N E _) ((around_mem (N := N)).2 ⟨twin_lt hd, h3⟩) ((around_mem (N := N)).2 ⟨twin_lt he, rfl⟩) q
    rw [← twin_twin d, g3, twin_twin]
/-- The faces of a window. -/
def facesL (N E : List P2) : List (List Nat) := facesTo (nextN N E) (2 * E.length) (2 * E.length)
def cross2 (N E : List P2) (d : Nat) : Int := (at2 N (fromN E d)).1 * (at2 N (fromN E (twin d))).2 - (at2 N (fromN E d)).2 * (at2 N (fromN E (twin d))).1
def areaL (N E : List P2) (l : List Nat) : Int := (l.map (cross2 N E)).sum
theorem cross2_twin (N E : List P2) (k : Nat) : cross2 N E (2 * k) + cross2 N E (2 * k + 1) = 0 := by
  have e1 : twin (2 * k) = 2 * k + 1 := by unfold twin; split <;> omega
  have e2 : twin (2 * k + 1) = 2 * k := by unfold twin; split <;> omega
  unfold cross2
  rw [e1, e2, Int.mul_comm (at2 N (fromN E (2 * k + 1))).1, Int.mul_comm (at2 N (fromN E (2 * k + 1))).2]
  omega
/-- Some face is not left of its walk. -/
theorem outer_some {N E : List P2} (h : 0 < E.length) : ∃ l ∈ facesL N E, areaL N E l ≤ 0 := by
  by_cases e : ∃ l ∈ facesL N E, areaL N E l ≤ 0
  · exact e
  · exfalso
    have h1 := (next_inj N E).sum_faces (cross2 N E)
    rw [sum_pairs _ _ fun k _ => cross2_twin N E k] at h1
    have h2 := sum_all_pos ((facesL N E).map (areaL N E)) (fun x hx => by
      obtain ⟨l, hl, rfl⟩ := List.mem_map.1 hx
      rcases Int.lt_or_le 0 (areaL N E l) with q | q
      · exact q
      · exact absurd ⟨l, hl, q⟩ e) (by
      intro q
      have hf := ((next_inj N E).faces _ (Nat.le_refl _)).2.2.2.1 0 (by omega)
      have : facesL N E = [] := by simpa using q
      unfold facesL at this
      rw [this] at hf
      simp at hf)
    unfold facesL areaL at h2
    rw [h1] at h2
    omega
end Go.Proofs.Ytkgbilbicdiadaa
