/- Words and walks for the law FnMatches, a part of them. No condition but that the arguments lie in memory. -/
import Derived.Test.YtabgcpoaepafjaaGreatU2
import Derived.IntWalk
set_option linter.unusedVariables false
set_option linter.unusedSimpArgs false
namespace Go.Proofs.YtabgcpoaepafjaaGreat
/-- n times f. -/
def it (f : Nat → Nat) : Nat → Nat → Nat
  | 0, d => d
  | n + 1, d => f (it f n d)
theorem it_add (f : Nat → Nat) (a b d : Nat) : it f (a + b) d = it f a (it f b d) := by
  induction a with
  | zero => simp [it]
  | succ a ih => rw [Nat.succ_add]; simp only [it]; rw [ih]
/-- f is a map of the numbers below m, one to one. -/
structure Inj (f : Nat → Nat) (m : Nat) : Prop where
  lt : ∀ d, d < m → f d < m
  inj : ∀ d e, d < m → e < m → f d = f e → d = e
theorem Inj.it_lt {f : Nat → Nat} {m : Nat} (h : Inj f m) {d : Nat} (hd : d < m) : ∀ n, it f n d < m
  | 0 => hd
  | n + 1 => h.lt _ (h.it_lt hd n)
theorem Inj.it_inj {f : Nat → Nat} {m : Nat} (h : Inj f m) {d e : Nat} (hd : d < m) (he : e < m) : ∀ n, it f n d = it f n e → d = e
  | 0, q => q
  | n + 1, q => h.it_inj hd he n (h.inj _ _ (h.it_lt hd n) (h.it_lt he n) q)
/-- A list without repeats of numbers below m is no longer than m. -/
theorem nodup_len : ∀ (m : Nat) (l : List Nat), l.Nodup → (∀ x ∈ l, x < m) → l.length ≤ m
  | 0, l, _, h => by
    cases l with
    | nil => simp
    | cons a t => exact absurd (h a (by simp)) (by omega)
  | m + 1, l, hn, h => by
    have h1 : (l.erase m).length ≤ m := nodup_len m (l.erase m) (hn.erase m) fun x hx => by
      have h2 := (hn.mem_erase_iff).1 hx
      have := h x h2.2
      omega
    have h2 : l.length ≤ (l.erase m).length + 1 := by
      rw [List.length_erase]
      split <;> omega
    omega
theorem Inj.back {f : Nat → Nat} {m : Nat} (h : Inj f m) {d : Nat} (hd : d < m) : ∃ p, 1 ≤ p ∧ p ≤ m ∧ it f p d = d := by
  by_cases e : ∃ p, 1 ≤ p ∧ p ≤ m ∧ it f p d = d
  · exact e
  · exfalso
    have hn : ((List.range (m + 1)).map fun i => it f i d).Nodup := by
      rw [List.nodup_iff_pairwise_ne, List.pairwise_map]
      refine List.Pairwise.imp_of_mem ?_ List.pairwise_lt_range
      intro a b ha hb hlt q
      have hb' : b < m + 1 := List.mem_range.1 hb
      refine e ⟨b - a, by omega, by omega, ?_⟩
      have : b = a + (b - a) := by omega
      rw [this, it_add] at q
      exact (h.it_inj hd (h.it_lt hd _) a q).symm
    have := nodup_len m _ hn fun x hx => by
      obtain ⟨i, _, rfl⟩ := List.mem_map.1 hx
      exact h.it_lt hd i
    simp at this
    omega
/-- The walk from d: all numbers until d comes again. -/
def walkFrom (f : Nat → Nat) (d : Nat) : Nat → Nat → List Nat
  | 0, _ => []
  | n + 1, e => if e = d then [] else e :: walkFrom f d n (f e)
def walkL (f : Nat → Nat) (m d : Nat) : List Nat := d :: walkFrom f d m (f d)
theorem walkFrom_stop (f : Nat → Nat) (d : Nat) : ∀ n j, it f j d = d → ∀ i, i ≤ j → j - i ≤ n → ∃ p, i ≤ p ∧ p ≤ j ∧ it f p d = d ∧ (∀ q, i ≤ q → q < p → it f q d ≠ d) ∧ walkFrom f d n (it f i d) = (List.range (p - i)).map fun k => it f (i + k) d := by
  intro n
  induction n with
  | zero =>
    intro j hj i hi hn
    have : i = j := by omega
    subst this
    exact ⟨i, Nat.le_refl _, Nat.le_refl _, hj, fun q h1 h2 => absurd h2 (by omega), by simp [walkFrom]⟩
  | succ n ih =>
    intro j hj i hi hn
    by_cases e : it f i d = d
    · exact ⟨i, Nat.le_refl _, hi, e, fun q h1 h2 => absurd h2 (by omega), by simp [walkFrom, e]⟩
    · have hlt : i < j := by
        rcases Nat.lt_or_ge i j with h | h
        · exact h
        · have : i = j := by omega
          subst this
          exact absurd hj e
      obtain ⟨p, h1, h2, h3, h4, h5⟩ := ih j hj (i + 1) (by omega) (by omega)
      refine ⟨p, by omega, h2, h3, fun q hq1 hq2 => ?_, ?_⟩
      · by_cases hq : q = i
        · subst hq; exact e
        · exact h4 q (by omega) hq2
      · have e2 : p - i = (p - (i + 1)) + 1 := by omega
        rw [e2, List.range_succ_eq_map, List.map_cons, List.map_map]
        simp only [walkFrom, if_neg e]
        have e3 : f (it f i d) = it f (i + 1) d := rfl
        rw [e3, h5]
        refine List.cons_eq_cons.2 ⟨rfl, List.map_congr_left fun k _ => ?_⟩
        show it f (i + 1 + k) d = it f (i + (k + 1)) d
        congr 1
        omega
/-- The walk from d is d, f d, .. up to the first return. -/
theorem Inj.walk {f : Nat → Nat} {m : Nat} (h : Inj f m) {d : Nat} (hd : d < m) : ∃ p, 1 ≤ p ∧ p ≤ m ∧ it f p d = d ∧ (∀ q, 1 ≤ q → q < p → it f q d ≠ d) ∧ walkL f m d = (List.range p).map fun k => it f k d := by
  obtain ⟨j, hj1, hj2, hj3⟩ := h.back hd
  obtain ⟨p, h1, h2, h3, h4, h5⟩ := walkFrom_stop f d m j hj3 1 hj1 (by omega)
  refine ⟨p, h1, by omega, h3, h4, ?_⟩
  have e2 : p = (p - 1) + 1 := by omega
  unfold walkL
  have e3 : f d = it f 1 d := rfl
  rw [e3, h5]
  conv => rhs; rw [e2, List.range_succ_eq_map, List.map_cons, List.map_map]
  refine List.cons_eq_cons.2 ⟨rfl, List.map_congr_left fun k _ => ?_⟩
  show it f (1 + k) d = it f (k + 1) d
  congr 1
  omega
/-- What the walk holds: closed under f, without repeats, below m. -/
theorem Inj.walk_facts {f : Nat → Nat} {m : Nat} (h : Inj f m) {d : Nat} (hd : d < m) : d ∈ walkL f m d ∧ (walkL f m d).Nodup ∧ (∀ e ∈ walkL f m d, e < m) ∧ (∀ e ∈ walkL f m d, f e ∈ walkL f m d) ∧ (walkL f m d).length ≤ m ∧ ∀ e ∈ walkL f m d, ∃ q, it f q e = d := by
  obtain ⟨p, h1, h2, h3, h4, h5⟩ := h.walk hd
  refine ⟨by simp [walkL], ?_, ?_, ?_, by rw [h5]; simpa using h2, ?_⟩
  · rw [h5, List.nodup_iff_pairwise_ne, List.pairwise_map]
    refine List.Pairwise.imp_of_mem ?_ List.pairwise_lt_range
    intro a b ha hb hlt q
    have hb' : b < p := List.mem_range.1 hb
    have e : b = a + (b - a) := by omega
    rw [e, it_add] at q
    exact h4 (b - a) (by omega) (by omega) (h.it_inj hd (h.it_lt hd _) a q).symm
  · intro e he
    rw [h5] at he
    obtain ⟨i, _, rfl⟩ := List.mem_map.1 he
    exact h.it_lt hd i
  · intro e he
    rw [h5] at he ⊢
    obtain ⟨i, hi, rfl⟩ := List.mem_map.1 he
    have hi : i < p := List.mem_range.1 hi
    by_cases e : i + 1 = p
    · refine List.mem_map.2 ⟨0, List.mem_range.2 (by omega), ?_⟩
      show d = it f (i + 1) d
      rw [e, h3]
    · exact List.mem_map.2 ⟨i + 1, List.mem_range.2 (by omega), rfl⟩
  · intro e he
    rw [h5] at he
    obtain ⟨i, hi, rfl⟩ := List.mem_map.1 he
    have hi : i < p := List.mem_range.1 hi
    refine ⟨p - i, ?_⟩
    rw [← it_add]
    have : p - i + i = p := by omega
    rw [this, h3]
/-- The walks of the numbers below n, each number once. -/
def facesTo (f : Nat → Nat) (m : Nat) : Nat → List (List Nat)
  | 0 => []
  | d + 1 => if d ∈ (facesTo f m d).flatten then facesTo f m d else facesTo f m d ++ [walkL f m d]
theorem Inj.faces {f : Nat → Nat} {m : Nat} (h : Inj f m) : ∀ n, n ≤ m → (facesTo f m n).flatten.Nodup ∧ (∀ e ∈ (facesTo f m n).flatten, e < m) ∧ (∀ e ∈ (facesTo f m n).flatten, f e ∈ (facesTo f m n).flatten) ∧ (∀ d, d < n → d ∈ (facesTo f m n).flatten) ∧ (facesTo f m n).length ≤ n ∧ ∀ l ∈ facesTo f m n, l ≠ [] ∧ l.length ≤ m
  | 0, _ => by simp [facesTo]
  | n + 1, hn => by
    obtain ⟨h1, h2, h3, h4, h5, h6⟩ := h.faces n (by omega)
    have hd : n < m := by omega
    simp only [facesTo]
    split
    · rename_i hin
      refine ⟨h1, h2, h3, fun d hd => ?_, by omega, h6⟩
      rcases Nat.lt_or_ge d n with hlt | hge
      · exact h4 d hlt
      · have : d = n := by omega
        subst this
        exact hin
    · rename_i hout
      obtain ⟨w1, w2, w3, w4, w5, w6⟩ := h.walk_facts hd
      have hcl : ∀ q e, e ∈ (facesTo f m n).flatten → it f q e ∈ (facesTo f m n).flatten := by
        intro q
        induction q with
        | zero => intro e he; exact he
        | succ q ih => intro e he; exact h3 _ (ih e he)
      have e0 : (facesTo f m n ++ [walkL f m n]).flatten = (facesTo f m n).flatten ++ walkL f m n := by simp
      rw [e0]
      refine ⟨?_, ?_, ?_, ?_, by simp; omega, ?_⟩
      · rw [List.nodup_append]
        refine ⟨h1, w2, fun a ha b hb e => ?_⟩
        subst e
        obtain ⟨q, hq⟩ := w6 a hb
        exact hout (hq ▸ hcl q a ha)
      · intro e he
        rcases List.mem_append.1 he with he | he
        · exact h2 e he
        · exact w3 e he
      · intro e he
        rcases List.mem_append.1 he with he | he
        · exact List.mem_append_left _ (h3 e he)
        · exact List.mem_append_right _ (w4 e he)
      · intro d hd
        rcases Nat.lt_or_ge d n with hlt | hge
        · exact List.mem_append_left _ (h4 d hlt)
        · have : d = n := by omega
          subst this
          exact List.mem_append_right _ w1
      · intro l hl
        rcases List.mem_append.1 hl with hl | hl
        · exact h6 l hl
        · have e : l = walkL f m n := by simpa using hl
          subst e
          exact ⟨by simp [walkL], w5⟩
/-- The place of the walk in which a number lies (the last one; 0 where there is none). -/
def sideTo (F : List (List Nat)) (d : Nat) : Nat → Nat
  | 0 => 0
  | n + 1 => if d ∈ F.getD n [] then n else sideTo F d n
/-- A sum over all walks is the sum over all numbers. -/
theorem sum_perm {l m : List Int} (h : l.Perm m) : l.sum = m.sum := by
  induction h with
  | nil => rfl
  | cons _ _ ih => simp only [List.sum_cons, ih]
  | swap a b l => simp only [List.sum_cons]; omega
  | trans _ _ a b => exact a.trans b
end Go.Proofs.YtabgcpoaepafjaaGreat
namespace Go.Proofs.YtabgcpoaepafjaaGreat
def nodeOk (p : P2) : Bool := inR p.1 0 20 && inR p.2 0 20
theorem nodeOk_iff {p : P2} : nodeOk p = true ↔ (0 ≤ p.1 ∧ p.1 ≤ 20) ∧ 0 ≤ p.2 ∧ p.2 ≤ 20 := by simp [nodeOk, inR]
def turnN (a b c : P2) : Int := (b.1 - a.1) * (c.2 - a.2) - (b.2 - a.2) * (c.1 - a.1)
theorem mul_in {x y m n : Int} (hm : 0 ≤ m) (hn : 0 ≤ n) (hx : -m ≤ x ∧ x ≤ m) (hy : -n ≤ y ∧ y ≤ n) : -(m * n) ≤ x * y ∧ x * y ≤ m * n := by
  have h : x.natAbs * y.natAbs ≤ m.natAbs * n.natAbs := Nat.mul_le_mul (by omega) (by omega)
  rw [← Int.natAbs_mul, ← Int.natAbs_mul] at h
  have h2 : 0 ≤ m * n := Int.mul_nonneg hm hn
  omega
theorem turn_in {a b c : P2} (ha : nodeOk a = true) (hb : nodeOk b = true) (hc : nodeOk c = true) : -800 ≤ turnN a b c ∧ turnN a b c ≤ 800 := by
  rw [nodeOk_iff] at ha hb hc
  have h1 := mul_in (x := b.1 - a.1) (y := c.2 - a.2) (m := 20) (n := 20) (by omega) (by omega) (by omega) (by omega)
  have h2 := mul_in (x := b.2 - a.2) (y := c.1 - a.1) (m := 20) (n := 20) (by omega) (by omega) (by omega) (by omega)
  unfold turnN
  omega
/-- c lies between a and b. -/
def betw (a b c : P2) : Bool := nodeOk a && nodeOk b && nodeOk c && !decide (a = b) && !decide (a = c) && !decide (b = c) && decide (turnN a b c = 0) && inR c.1 (min a.1 b.1) (max a.1 b.1) && inR c.2 (min a.2 b.2) (max a.2 b.2)
def halfP (a b : P2) : Int := if a.2 < b.2 ∨ (b.2 = a.2 ∧ a.1 < b.1) then 0 else 1
def befN (a b c : P2) : Bool := nodeOk a && nodeOk b && nodeOk c && (decide (halfP a b < halfP a c) || (decide (halfP a b = halfP a c) && decide (0 < turnN a b c)))
theorem befN_self (a b : P2) : befN a b b = false := by
  have h : turnN a b b = 0 := by unfold turnN; rw [Int.mul_comm]; omega
  simp [befN, h]
/-- Element i of a list of pairs. -/
def at2 (l : List P2) (i : Int) : P2 := l.getD i.toNat (0, 0)
theorem at2_eq {l : List P2} {k : Nat} (h : k < l.length) : at2 l k = l[k] := by simp [at2, h]
def leadOk (N : List P2) (e : P2) : Bool := decide (0 ≤ e.1) && decide (e.1 < e.2) && decide (e.2 < N.length) && nodeOk (at2 N e.1) && nodeOk (at2 N e.2) && !decide (at2 N e.1 = at2 N e.2)
theorem leadOk_iff {N : List P2} {e : P2} : leadOk N e = true ↔ (0 ≤ e.1 ∧ e.1 < e.2 ∧ e.2 < N.length) ∧ nodeOk (at2 N e.1) = true ∧ nodeOk (at2 N e.2) = true ∧ at2 N e.1 ≠ at2 N e.2 := by
  simp only [leadOk, Bool.and_eq_true, decide_eq_true_eq, Bool.not_eq_true', decide_eq_false_iff_not, and_assoc, ne_eq]
def onN (a b n : P2) : Bool := decide (n = a) || decide (n = b) || betw a b n
def onLead (N : List P2) (e n : P2) : Bool := leadOk N e && onN (at2 N e.1) (at2 N e.2) n
def crossN (a b u v : P2) : Bool := (decide (a = u) && decide (b = v)) || (decide (a = v) && decide (b = u)) || betw a b u || betw a b v || betw u v a || betw u v b || (decide (turnN a b u * turnN a b v < 0) && decide (turnN u v a * turnN u v b < 0))
def crossB (N : List P2) (e f : P2) : Bool := leadOk N e && leadOk N f && crossN (at2 N e.1) (at2 N e.2) (at2 N f.1) (at2 N f.2)
theorem crossN_comm (a b u v : P2) : crossN a b u v = crossN u v a b := by
  unfold crossN
  have e1 : decide (a = u) = decide (u = a) := by rw [decide_eq_decide]; exact eq_comm
  have e2 : decide (b = v) = decide (v = b) := by rw [decide_eq_decide]; exact eq_comm
  have e3 : decide (a = v) = decide (v = a) := by rw [decide_eq_decide]; exact eq_comm
  have e4 : decide (b = u) = decide (u = b) := by rw [decide_eq_decide]; exact eq_comm
  rw [e1, e2, e3, e4]
  cases decide (u = a) <;> cases decide (v = b) <;> cases decide (v = a) <;> cases decide (u = b) <;> cases betw a b u <;> cases betw a b v <;> cases betw u v a <;> cases betw u v b <;> simp [Bool.and_comm]
theorem crossB_comm (N : List P2) (e f : P2) : crossB N e f = crossB N f e := by
  unfold crossB
  rw [crossN_comm, Bool.and_comm (leadOk N e)]
/-- The nodes below k are nodes, no two alike. -/
def NodesTo (N : List P2) (k : Nat) : Prop := ∀ j, j < k → nodeOk (at2 N j) = true ∧ ∀ i, i < j → at2 N i ≠ at2 N j
/-- The leads below k are leads; no two cross; no other node lies on one. -/
def LeadsTo (N E : List P2) (k : Nat) : Prop := ∀ j, j < k → leadOk N (at2 E j) = true ∧ (∀ i, i < j → crossB N (at2 E i) (at2 E j) = false) ∧ ∀ i : Nat, i < N.length → (i : Int) ≠ (at2 E j).1 → (i : Int) ≠ (at2 E j).2 → onLead N (at2 E j) (at2 N i) = false
structure WinOk (N E : List P2) : Prop where
  n : 1 ≤ N.length ∧ N.length ≤ 12
  m : E.length ≤ 20
  nodes : NodesTo N N.length
  leads : LeadsTo N E E.length
open Classical in
noncomputable def windowB (N E : List P2) : Bool := decide (WinOk N E)
theorem windowB_iff {N E : List P2} : windowB N E = true ↔ WinOk N E := by simp [windowB]
theorem windowB_no {N E : List P2} (h : ¬ WinOk N E) : windowB N E = false := by simp [windowB, h]
/-- Where dart d begins. -/
def fromN (E : List P2) (d : Nat) : Int := if d % 2 = 0 then (at2 E (d / 2 : Nat)).1 else (at2 E (d / 2 : Nat)).2
def twin (d : Nat) : Nat := if d % 2 = 0 then d + 1 else d - 1
theorem twin_twin (d : Nat) : twin (twin d) = d := by unfold twin; split <;> split <;> omega
theorem twin_half (d : Nat) : twin d / 2 = d / 2 := by unfold twin; split <;> omega
theorem twin_lt {d m : Nat} (h : d < 2 * m) : twin d < 2 * m := by unfold twin; split <;> omega
theorem twin_xor (d : Nat) : d ^^^ 1 = twin d := by
  have h1 : (d ^^^ 1) % 2 = (d + 1) % 2 := by have := @Nat.xor_mod_two_eq_one d 1; omega
  have h2 : (d ^^^ 1) / 2 = d / 2 := by
    refine Nat.eq_of_testBit_eq fun i => ?_
    rw [← Nat.testBit_succ, Nat.testBit_xor, ← Nat.testBit_succ]
    have : Nat.testBit 1 (i + 1) = false := by rw [Nat.testBit_succ]; simp
    rw [this, Bool.xor_false]
  unfold twin
  split <;> omega
theorem WinOk.ends {N E : List P2} (h : WinOk N E) {d : Nat} (hd : d < 2 * E.length) : 0 ≤ fromN E d ∧ fromN E d < N.length ∧ nodeOk (at2 N (fromN E d)) = true := by
  have h1 := leadOk_iff.1 (h.leads (d / 2) (by omega)).1
  unfold fromN
  split
  · exact ⟨by omega, by omega, h1.2.1⟩
  · exact ⟨by omega, by omega, h1.2.2.1⟩
theorem WinOk.ends_ne {N E : List P2} (h : WinOk N E) {d : Nat} (hd : d < 2 * E.length) : fromN E d ≠ fromN E (twin d) := by
  have h1 := (leadOk_iff.1 (h.leads (d / 2) (by omega)).1).1
  unfold fromN
  rw [twin_half]
  unfold twin
  split <;> split <;> omega
theorem WinOk.node {N E : List P2} (h : WinOk N E) {i : Int} (h0 : 0 ≤ i) (h1 : i < N.length) : nodeOk (at2 N i) = true := by
  have := (h.nodes i.toNat (by omega)).1
  rwa [Int.toNat_of_nonneg h0] at this
theorem WinOk.node_inj {N E : List P2} (h : WinOk N E) {i j : Int} (h0 : 0 ≤ i) (h1 : i < N.length) (h2 : 0 ≤ j) (h3 : j < N.length) (e : at2 N i = at2 N j) : i = j := by
  rcases Int.lt_trichotomy i j with hlt | he | hlt
  · have := (h.nodes j.toNat (by omega)).2 i.toNat (by omega)
    rw [Int.toNat_of_nonneg h0, Int.toNat_of_nonneg h2] at this
    exact absurd e this
  · exact he
  · have := (h.nodes i.toNat (by omega)).2 j.toNat (by omega)
    rw [Int.toNat_of_nonneg h0, Int.toNat_of_nonneg h2] at this
    exact absurd e.symm this
/-- No two leads join the same nodes. -/
theorem WinOk.lead_inj {N E : List P2} (h : WinOk N E) {i j : Nat} (hi : i < E.length) (hj : j < E.length) (e : at2 E i = at2 E j) : i = j := by
  have key : ∀ a b, a < b → b < E.length → at2 E a ≠ at2 E b := by
    intro a b hab hb e
    have h1 := (h.leads b hb).2.1 a hab
    rw [e] at h1
    have h2 := (h.leads b hb).1
    simp [crossB, h2, crossN] at h1
  rcases Nat.lt_trichotomy i j with hlt | he | hlt
  · exact absurd e (key i j hlt hj)
  · exact he
  · exact absurd e.symm (key j i hlt hi)
theorem WinOk.dart_inj {N E : List P2} (h : WinOk N E) {d e : Nat} (hd : d < 2 * E.length) (he : e < 2 * E.length) (h1 : fromN E d = fromN E e) (h2 : fromN E (twin d) = fromN E (twin e)) : d = e := by
  have hd1 := (leadOk_iff.1 (h.leads (d / 2) (by omega)).1).1
  have he1 := (leadOk_iff.1 (h.leads (e / 2) (by omega)).1).1
  have key : d / 2 = e / 2 ∧ d % 2 = e % 2 := by
    unfold fromN at h1 h2
    rw [twin_half, twin_half] at h2
    have t1 : twin d % 2 = 1 - d % 2 := by unfold twin; split <;> omega
    have t2 : twin e % 2 = 1 - e % 2 := by unfold twin; split <;> omega
    rw [t1, t2] at h2
    rcases Nat.mod_two_eq_zero_or_one d with a | a <;> rcases Nat.mod_two_eq_zero_or_one e with b | b <;> simp only [a, b, Nat.sub_zero, Nat.sub_self, Nat.one_ne_zero, if_true, if_false] at h1 h2
    · exact ⟨h.lead_inj (by omega) (by omega) (Prod.ext h1 h2), by omega⟩
    · omega
    · omega
    · exact ⟨h.lead_inj (by omega) (by omega) (Prod.ext h2 h1), by omega⟩
  omega
/-- v is put into a list that is turned round: behind all that it is not less than. -/
def insR (lt : Nat → Nat → Bool) (v : Nat) : List Nat → List Nat
  | [] => [v]
  | x :: t => if lt v x then x :: insR lt v t else v :: x :: t
theorem insR_perm (lt : Nat → Nat → Bool) (v : Nat) : ∀ r, (insR lt v r).Perm (v :: r)
  | [] => .refl _
  | x :: t => by
    simp only [insR]
    split
    · exact ((insR_perm lt v t).cons x).trans (.swap _ _ _)
    · exact .refl _
/-- The order of darts around the node where they begin. -/
def ltD (N E : List P2) (k : Int) (d e : Nat) : Bool := befN (at2 N k) (at2 N (fromN E (twin d))) (at2 N (fromN E (twin e)))
/-- The darts below n that begin at node k, the last first. -/
def arR (N E : List P2) (k : Int) : Nat → List Nat
  | 0 => []
  | n + 1 => if fromN E n = k then insR (ltD N E k) n (arR N E k n) else arR N E k n
def aroundL (N E : List P2) (k : Int) : List Nat := (arR N E k (2 * E.length)).reverse
/-- The darts below n that begin at node k, in the order of their numbers. -/
def dartsAt (E : List P2) (k : Int) (n : Nat) : List Nat := (List.range n).filter fun d => fromN E d == k
theorem dartsAt_succ (E : List P2) (k : Int) (n : Nat) : dartsAt E k (n + 1) = if fromN E n = k then dartsAt E k n ++ [n] else dartsAt E k n := by
  unfold dartsAt
  rw [List.range_succ, List.filter_append]
  by_cases h : fromN E n = k <;> simp [h]
theorem arR_perm (N E : List P2) (k : Int) : ∀ n, (arR N E k n).Perm (dartsAt E k n)
  | 0 => .refl _
  | n + 1 => by
    rw [dartsAt_succ]
    simp only [arR]
    split
    · exact (insR_perm _ _ _).trans (((arR_perm N E k n).cons n).trans (List.perm_append_singleton n _).symm)
    · exact arR_perm N E k n
theorem around_perm (N E : List P2) (k : Int) : (aroundL N E k).Perm (dartsAt E k (2 * E.length)) := (List.reverse_perm _).trans (arR_perm N E k _)
theorem around_mem {N E : List P2} {k : Int} {d : Nat} : d ∈ aroundL N E k ↔ d < 2 * E.length ∧ fromN E d = k := by
  rw [(around_perm N E k).mem_iff]
  simp [dartsAt]
theorem around_nodup (N E : List P2) (k : Int) : (aroundL N E k).Nodup := (around_perm N E k).nodup_iff.2 ((List.nodup_range).filter _)
/-- At most twelve darts begin at a node. -/
theorem WinOk.degree {N E : List P2} (h : WinOk N E) (k : Int) (n : Nat) (hn : n ≤ 2 * E.length) : (dartsAt E k n).length ≤ 12 := by
  have h1 : ((dartsAt E k n).map fun d => (fromN E (twin d)).toNat).Nodup := by
    rw [List.nodup_iff_pairwise_ne, List.pairwise_map]
    have h2 : (dartsAt E k n).Nodup := (List.nodup_range).filter _
    refine List.Pairwise.imp_of_mem ?_ (List.nodup_iff_pairwise_ne.1 h2)
    intro a b ha hb hne e
    simp only [dartsAt, List.mem_filter, List.mem_range, beq_iff_eq] at ha hb
    have h3 := h.ends (twin_lt (show a < 2 * E.length by omega))
    have h4 := h.ends (twin_lt (show b < 2 * E.length by omega))
    exact hne (h.dart_inj (by omega) (by omega) (ha.2.trans hb.2.symm) (by omega))
  have h5 := nodup_len 12 _ h1 fun x hx => by
    obtain ⟨d, hd, rfl⟩ := List.mem_map.1 hx
    simp only [dartsAt, List.mem_filter, List.mem_range, beq_iff_eq] at hd
    have h3 := h.ends (twin_lt (show d < 2 * E.length by omega))
    have := h.n
    omega
  simpa using h5
theorem getD_mem {l : List Nat} {k : Nat} (h : k < l.length) : l.getD k 0 ∈ l := by
  have e : l.getD k 0 = l[k] := by simp [h]
  rw [e]
  exact List.getElem_mem _
theorem getD_inj {l : List Nat} (hn : l.Nodup) {i j : Nat} (hi : i < l.length) (hj : j < l.length) (q : l.getD i 0 = l.getD j 0) : i = j := by
  have e : l.getD i 0 = l[i] := by simp [hi]
  have f : l.getD j 0 = l[j] := by simp [hj]
  rw [e, f] at q
  have key := List.pairwise_iff_getElem.1 (List.nodup_iff_pairwise_ne.1 hn)
  rcases Nat.lt_trichotomy i j with h | h | h
  · exact absurd q (key i j hi hj h)
  · exact h
  · exact absurd q.symm (key j i hj hi h)
/-- The element of l some places after d. -/
def stepIn (l : List Nat) (d : Nat) (y : Int) : Nat := l.getD ((((l.idxOf d : Nat) : Int) + y + l.length) % l.length).toNat 0
/-- The dart some places after d around its node. -/
def besideN (N E : List P2) (d : Nat) (y : Int) : Nat := stepIn (aroundL N E (fromN E d)) d y
theorem step_at {l : List Nat} {d : Nat} (hm : d ∈ l) (y : Int) : l.idxOf d < l.length ∧ 0 ≤ (((l.idxOf d : Nat) : Int) + y + l.length) % l.length ∧ (((l.idxOf d : Nat) : Int) + y + l.length) % l.length < l.length := by
  have h1 : l.idxOf d < l.length := List.idxOf_lt_length_of_mem hm
  exact ⟨h1, Int.emod_nonneg _ (by omega), Int.emod_lt_of_pos _ (by omega)⟩
theorem step_mem {l : List Nat} {d : Nat} (hm : d ∈ l) (y : Int) : stepIn l d y ∈ l := by
  have h := step_at hm y
  exact getD_mem (by omega)
theorem mod_step {n a b : Nat} (ha : a < n) (hb : b < n) (q : ((a : Int) + -1 + n) % n = ((b : Int) + -1 + n) % n) : a = b := by
  have key : ∀ c : Nat, c < n → ((c : Int) + -1 + n) % n = if c = 0 then (n : Int) - 1 else c - 1 := by
    intro c hc
    split
    · have e : (c : Int) + -1 + n = n - 1 := by omega
      rw [e]
      exact Int.emod_eq_of_lt (by omega) (by omega)
    · rw [Int.add_emod_right]
      exact (Int.emod_eq_of_lt (by omega) (by omega)).trans (by omega)
  rw [key a ha, key b hb] at q
  split at q <;> split at q <;> omega
theorem step_inj {l : List Nat} (hn : l.Nodup) {d e : Nat} (hd : d ∈ l) (he : e ∈ l) (q : stepIn l d (-1) = stepIn l e (-1)) : d = e := by
  have a := step_at hd (-1)
  have b := step_at he (-1)
  have q2 := getD_inj hn (by omega) (by omega) q
  have q3 : l.idxOf d = l.idxOf e := mod_step a.1 b.1 (by omega)
  have g1 := List.getElem_idxOf (List.idxOf_lt_length_of_mem hd)
  have g2 := List.getElem_idxOf (List.idxOf_lt_length_of_mem he)
  rw [← g1, ← g2]
  congr 1
theorem beside_mem {N E : List P2} {d : Nat} (hd : d < 2 * E.length) (y : Int) : besideN N E d y ∈ aroundL N E (fromN E d) := step_mem (around_mem.2 ⟨hd, rfl⟩) y
def nextN (N E : List P2) (d : Nat) : Nat := besideN N E (twin d) (-1)
theorem next_inj (N E : List P2) : Inj (nextN N E) (2 * E.length) where
  lt d hd := (around_mem.1 (beside_mem (twin_lt hd) (-1))).1
  inj d e hd he q := by
    have h1 := (around_mem.1 (beside_mem (N := N) (twin_lt hd) (-1))).2
    have h2 := (around_mem.1 (beside_mem (N := N) (twin_lt he) (-1))).2
    unfold nextN at q
    rw [q] at h1
    have h3 : fromN E (twin d) = fromN E (twin e) := h1.symm.trans h2
    unfold besideN at q
    rw [h3] at q
    have g3 : twin d = twin e := step_inj (around_nodup N E _) ((around_mem (N := N)).2 ⟨twin_lt hd, h3⟩) ((around_mem (N := N)).2 ⟨twin_lt he, rfl⟩) q
    rw [← twin_twin d, g3, twin_twin]
/-- The faces of a window. -/
def facesL (N E : List P2) : List (List Nat) := facesTo (nextN N E) (2 * E.length) (2 * E.length)
def cross2 (N E : List P2) (d : Nat) : Int := (at2 N (fromN E d)).1 * (at2 N (fromN E (twin d))).2 - (at2 N (fromN E d)).2 * (at2 N (fromN E (twin d))).1
def areaL (N E : List P2) (l : List Nat) : Int := (l.map (cross2 N E)).sum
end Go.Proofs.YtabgcpoaepafjaaGreat
namespace Go.Proofs.YtabgcpoaepafjaaGreat
open Go.RowKit
def insAll (lt : Nat → Nat → Bool) (l : List Nat) : List Nat := l.foldl (fun r v => insR lt v r) []
theorem insAll_snoc (lt : Nat → Nat → Bool) (l : List Nat) (v : Nat) : insAll lt (l ++ [v]) = insR lt v (insAll lt l) := by simp [insAll]
theorem arR_ins (N E : List P2) (k : Int) : ∀ n, arR N E k n = insAll (ltD N E k) (dartsAt E k n)
  | 0 => rfl
  | n + 1 => by
    rw [dartsAt_succ]
    simp only [arR]
    split
    · rw [insAll_snoc, arR_ins N E k n]
    · exact arR_ins N E k n
theorem insR_length (lt : Nat → Nat → Bool) (v : Nat) (r : List Nat) : (insR lt v r).length = r.length + 1 := by
  rw [(insR_perm lt v r).length_eq]
  simp
theorem insAll_take_succ (lt : Nat → Nat → Bool) (l : List Nat) {i : Nat} (h : i < l.length) : insAll lt (l.take (i + 1)) = insR lt l[i] (insAll lt (l.take i)) := by
  rw [List.take_succ_eq_append_getElem h, insAll_snoc]
theorem insAll_length (lt : Nat → Nat → Bool) (l : List Nat) : ∀ i, i ≤ l.length → (insAll lt (l.take i)).length = i
  | 0, _ => rfl
  | i + 1, h => by rw [insAll_take_succ lt l (show i < l.length by omega), insR_length, insAll_length lt l i (by omega)]
/-- In the middle of a step: v has passed the part a of a ++ b. -/
structure InsMid (lt : Nat → Nat → Bool) (v : Nat) (r a b : List Nat) : Prop where
  eq : r = a ++ b
  out : insR lt v r = a ++ insR lt v b
theorem InsMid.start (lt : Nat → Nat → Bool) (v : Nat) (r : List Nat) : InsMid lt v r [] r := ⟨rfl, rfl⟩
theorem InsMid.go {lt : Nat → Nat → Bool} {v x : Nat} {r a b : List Nat} (h : InsMid lt v r a (x :: b)) (hx : lt v x = true) : InsMid lt v r (a ++ [x]) b where
  eq := by rw [h.eq]; simp
  out := by rw [h.out]; simp [insR, hx]
theorem InsMid.stop_nil {lt : Nat → Nat → Bool} {v : Nat} {r a : List Nat} (h : InsMid lt v r a []) : insR lt v r = a ++ [v] := h.out
theorem InsMid.stop {lt : Nat → Nat → Bool} {v x : Nat} {r a b : List Nat} (h : InsMid lt v r a (x :: b)) (hx : lt v x = false) : insR lt v r = a ++ v :: x :: b := by rw [h.out]; simp [insR, hx]
/-- What lies in the row in the middle of a step. -/
def midL (v : Nat) (a b rest : List Nat) : List Nat := b.reverse ++ v :: (a.reverse ++ rest)
theorem midL_length (v : Nat) (a b rest : List Nat) : (midL v a b rest).length = b.length + 1 + (a.length + rest.length) := by simp [midL]; omega
theorem midL_v (v : Nat) (a b rest : List Nat) : (midL v a b rest)[b.length]? = some v := by simp [midL]
theorem midL_x (v x : Nat) (a b rest : List Nat) : (midL v a (x :: b) rest)[b.length]? = some x := by simp [midL]
theorem midL_shift (v x : Nat) (a b rest : List Nat) (y : Nat) : (midL y a (x :: b) rest).set (b.length + 1) x = b.reverse ++ x :: x :: (a.reverse ++ rest) := by
  have e : midL y a (x :: b) rest = b.reverse ++ x :: y :: (a.reverse ++ rest) := by simp [midL]
  rw [e, List.set_append]
  simp [show ¬ b.length + 1 < b.length from by omega]
theorem midL_swap (v x : Nat) (a b rest : List Nat) : ((midL v a (x :: b) rest).set (b.length + 1) x).set b.length v = midL v (a ++ [x]) b rest := by
  rw [midL_shift v, List.set_append]
  simp [midL]
theorem midL_end (v : Nat) (a b rest : List Nat) : midL v a b rest = (a ++ v :: b).reverse ++ rest := by simp [midL]
/-- Numbers in memory. -/
def encN (l : List Nat) : List Value := l.map fun d => Value.int .i64 (d : Nat)
theorem encN_append (a b : List Nat) : encN (a ++ b) = encN a ++ encN b := by simp [encN]
theorem encN_I (l : List Nat) : encN l = encI (l.map fun d : Nat => (d : Int)) := by simp [encN, encI]
theorem encN_set (l : List Nat) (i v : Nat) : encN (l.set i v) = (encN l).set i (.int .i64 (v : Nat)) := by simp [encN, List.map_set]
theorem RN.at_ {w : World} {A : Option Addr} {n : Nat} {l : List Nat} (h : Rds w 1 A n (encN l)) (hn : l.length = n) {k : Nat} (hk : k < l.length) : ∃ b off, A = some ⟨b, off, none⟩ ∧ b < w.heap.size ∧ w.cell? ⟨b, off + k, none⟩ = some (.int .i64 (l[k] : Nat)) := by
  subst hn
  rw [encN_I] at h
  have hl : l.length = (l.map fun d : Nat => (d : Int)).length := by simp
  rw [hl] at h
  obtain ⟨b, off, h1, h2, h3⟩ := RI.at_ h (k := k) (by simpa using hk)
  exact ⟨b, off, h1, h2, by rw [h3]; simp⟩
/-- A window in memory. -/
structure WR (w : World) (N E : List P2) (A B : Option Addr) (c d : Nat) : Prop where
  hN : N.length ≤ 1048576
  hE : E.length ≤ 1048576
  hc : N.length ≤ c
  hd : E.length ≤ d
  hr : R2 w A N
  hs : R2 w B E
theorem WR.ext {w w' : World} {N E : List P2} {A B : Option Addr} {c d : Nat} (h : WR w N E A B c d) (hE : Ext w w') : WR w' N E A B c d := ⟨h.hN, h.hE, h.hc, h.hd, h.hr.ext hE, h.hs.ext hE⟩
theorem WinOk.lead_at {N E : List P2} (h : WinOk N E) {k : Nat} (hk : k < E.length) : 0 ≤ (at2 E k).1 ∧ (at2 E k).1 < N.length ∧ 0 ≤ (at2 E k).2 ∧ (at2 E k).2 < N.length := by
  have h1 := (leadOk_iff.1 (h.leads k hk).1).1
  omega
theorem WinOk.cross_in {N E : List P2} (h : WinOk N E) {d : Nat} (hd : d < 2 * E.length) : -400 ≤ cross2 N E d ∧ cross2 N E d ≤ 400 := by
  have h1 := nodeOk_iff.1 (h.ends hd).2.2
  have h2 := nodeOk_iff.1 (h.ends (twin_lt hd)).2.2
  obtain ⟨x, hx⟩ : ∃ x, (at2 N (fromN E d)) = x := ⟨_, rfl⟩
  obtain ⟨y, hy⟩ : ∃ y, (at2 N (fromN E (twin d))) = y := ⟨_, rfl⟩
  rw [hx] at h1
  rw [hy] at h2
  unfold cross2
  rw [hx, hy]
  have a1 : x.1 * y.2 ≤ 20 * 20 := Int.mul_le_mul h1.1.2 h2.2.2 h2.2.1 (by omega)
  have a2 : 0 ≤ x.1 * y.2 := Int.mul_nonneg h1.1.1 h2.2.1
  have b1 : x.2 * y.1 ≤ 20 * 20 := Int.mul_le_mul h1.2.2 h2.1.2 h2.1.1 (by omega)
  have b2 : 0 ≤ x.2 * y.1 := Int.mul_nonneg h1.2.1 h2.1.1
  omega
end Go.Proofs.YtabgcpoaepafjaaGreat
namespace Go.Proofs.YtabgcpoaepafjaaGreat
open Go.RowKit
theorem NodesTo.zero (N : List P2) : NodesTo N 0 := fun j hj => absurd hj (by omega)
theorem NodesTo.next {N : List P2} {k : Nat} (h : NodesTo N k) (hk : k < N.length) (ha : N.all nodeOk = true) (hc : N[k] ∉ N.take k) : NodesTo N (k + 1) := by
  intro j hj
  rcases Nat.lt_or_ge j k with h1 | h1
  · exact h j h1
  · have e : j = k := by omega
    subst e
    refine ⟨by rw [at2_eq hk]; exact List.all_eq_true.1 ha _ (List.getElem_mem hk), fun i hi q => hc ?_⟩
    rw [at2_eq hk, at2_eq (show i < N.length by omega)] at q
    rw [← q, List.mem_take_iff_getElem]
    exact ⟨i, by omega, rfl⟩
theorem NodesTo.dup {N : List P2} {k : Nat} (hk : k < N.length) (hc : N[k] ∈ N.take k) : ¬ NodesTo N N.length := by
  intro h
  obtain ⟨i, hi, q⟩ := List.mem_take_iff_getElem.1 hc
  have := (h k hk).2 i (by omega)
  rw [at2_eq hk, at2_eq (show i < N.length by omega)] at this
  exact this q
theorem LeadsTo.zero (N E : List P2) : LeadsTo N E 0 := fun j hj => absurd hj (by omega)
theorem LeadsTo.next {N E : List P2} {k : Nat} (h : LeadsTo N E k) (h1 : leadOk N (at2 E k) = true) (h2 : ∀ i, i < k → crossB N (at2 E i) (at2 E k) = false) (h3 : ∀ i : Nat, i < N.length → (i : Int) ≠ (at2 E k).1 → (i : Int) ≠ (at2 E k).2 → onLead N (at2 E k) (at2 N i) = false) : LeadsTo N E (k + 1) := by
  intro j hj
  rcases Nat.lt_or_ge j k with a | a
  · exact h j a
  · have e : j = k := by omega
    subst e
    exact ⟨h1, h2, h3⟩
theorem NodesTo.next2 {N : List P2} {k : Nat} (h : NodesTo N k) (h1 : nodeOk (at2 N k) = true) (h2 : ∀ i : Nat, i < k → at2 N i ≠ at2 N k) : NodesTo N (k + 1) := by
  intro j hj
  rcases Nat.lt_or_ge j k with a | a
  · exact h j a
  · have e : j = k := by omega
    subst e
    exact ⟨h1, h2⟩
end Go.Proofs.YtabgcpoaepafjaaGreat
namespace Go.Proofs.YtabgcpoaepafjaaGreat
open Go.RowKit
/-- The slice of address A reads as headers whose rows read as the lists of F. -/
def RT (w : World) (A : Option Addr) (F : List (List Nat)) : Prop :=
  ∃ hs : List Value, Rds w 1 A F.length hs ∧ ∀ (i : Nat) (l : List Nat), F[i]? = some l → ∃ Ai ci, hs[i]? = some (Value.slice Ai l.length ci) ∧ l.length ≤ ci ∧ Rds w 1 Ai l.length (encN l)
theorem RT.nil (w : World) : RT w none [] := ⟨[], Rds.nil_, fun i l h => by simp at h⟩
theorem RT.ext {w w' : World} {A : Option Addr} {F : List (List Nat)} (h : RT w A F) (hE : Ext w w') : RT w' A F := by
  obtain ⟨hs, h1, h2⟩ := h
  refine ⟨hs, h1.ext hE, fun i l hi => ?_⟩
  obtain ⟨Ai, ci, a, b, c⟩ := h2 i l hi
  exact ⟨Ai, ci, a, b, c.ext hE⟩
theorem RT.at_ {w : World} {A : Option Addr} {F : List (List Nat)} (h : RT w A F) {k : Nat} (hk : k < F.length) :
    ∃ b off Ai ci, A = some ⟨b, off, none⟩ ∧ b < w.heap.size ∧ w.cell? ⟨b, off + k, none⟩ = some (Value.slice Ai F[k].length ci) ∧ F[k].length ≤ ci ∧ Rds w 1 Ai F[k].length (encN F[k]) := by
  obtain ⟨hs, h1, h2⟩ := h
  obtain ⟨b, off, e, hb, hc⟩ := h1.2 (by omega)
  obtain ⟨Ai, ci, a, b', c⟩ := h2 k F[k] (by simp)
  exact ⟨b, off, Ai, ci, e, hb, hc _ _ a, b', c⟩
/-- A table that grows: headers in a row of the call's own, rows in blocks from B on, none of them that of the headers. -/
structure GT (w : World) (B : Nat) (T : TypeId) (v : Value) (F : List (List Nat)) (hs : List Value) : Prop where
  own : w.ownsRow B T 1 v F.length hs
  row : ∀ (i : Nat) (l : List Nat), F[i]? = some l → ∃ g ci, hs[i]? = some (Value.slice (some ⟨g, 0, none⟩) l.length ci) ∧ l.length ≤ ci ∧ B ≤ g ∧ g < w.heap.size ∧ v.ownBlock ≠ some g ∧ Rds w 1 (some ⟨g, 0, none⟩) l.length (encN l)
theorem GT.start (w : World) (B : Nat) (T : TypeId) : GT w B T (.slice none 0 0) [] [] := ⟨World.ownsRow_nil w B T 1, fun i l h => by simp at h⟩
/-- What leaves the blocks from B on as they were leaves the table. -/
theorem GT.keep {w w' : World} {B : Nat} {T : TypeId} {v : Value} {F : List (List Nat)} {hs : List Value} (h : GT w B T v F hs) (hz : w.heap.size ≤ w'.heap.size) (hk : ∀ b, B ≤ b → b < w.heap.size → w'.heap[b]? = w.heap[b]?) : GT w' B T v F hs := by
  refine ⟨⟨h.own.1, ?_⟩, fun i l hi => ?_⟩
  · rcases h.own.2 with h1 | ⟨g, cap, cur, h1, h2, h3, h4⟩
    · exact .inl h1
    · refine .inr ⟨g, cap, cur, h1, h2, ?_, h4⟩
      rw [hk g h2 (h.own.lt g (by rw [h1]; rfl)).2]
      exact h3
  · obtain ⟨g, ci, a1, a2, a3, a4, a5, a6⟩ := h.row i l hi
    exact ⟨g, ci, a1, a2, a3, by omega, a5, a6.keep hz (fun b off e _ hb => by
      injection e with e
      injection e with e1 _ _
      subst e1
      exact hk _ a3 hb)⟩
theorem GT.ext {w w' : World} {B : Nat} {T : TypeId} {v : Value} {F : List (List Nat)} {hs : List Value} (h : GT w B T v F hs) (hE : Ext w w') : GT w' B T v F hs := h.keep hE.size fun b _ hb => hE.block b hb
theorem GT.setk {w : World} {B k i : Nat} {T : TypeId} {v u : Value} {F : List (List Nat)} {hs : List Value} (h : GT w B T v F hs) (hk : k < B) : GT (w.setCell ⟨k, i, none⟩ u) B T v F hs :=
  h.keep (by simp) fun b hb _ => Below.heap_setCell _ _ _ _ (show b ≠ k by omega)
/-- One row more. -/
theorem GT.more {w w4 : World} {B g ci : Nat} {T : TypeId} {v v' : Value} {F : List (List Nat)} {hs : List Value} {l : List Nat} (h : GT w B T v F hs) (hB : B ≤ g) (hg : g < w.heap.size) (hgv : v.ownBlock ≠ some g) (hl : l.length ≤ ci) (hr : Rds w 1 (some ⟨g, 0, none⟩) l.length (encN l))
    (hgr : (w.alloc (.cells #[Value.slice (some ⟨g, 0, none⟩) l.length ci] T)).grownBy w4 v.ownBlock) (hv : v'.ownBlock = v.ownBlock ∨ v'.ownBlock = some (w.alloc (.cells #[Value.slice (some ⟨g, 0, none⟩) l.length ci] T)).heap.size)
    (how : w4.ownsRow B T 1 v' (F.length + 1) (hs ++ [Value.slice (some ⟨g, 0, none⟩) l.length ci])) : GT w4 B T v' (F ++ [l]) (hs ++ [Value.slice (some ⟨g, 0, none⟩) l.length ci]) := by
  have hz := hgr.size
  simp only [World.size_alloc] at hz
  have hne : ∀ x, x < w.heap.size → v.ownBlock ≠ some x → v'.ownBlock ≠ some x := by
    intro x hx hn e
    rcases hv with e' | e'
    · rw [e'] at e
      exact hn e
    · rw [e'] at e
      injection e with e
      simp at e
      omega
  have hkeep : ∀ (A : Nat) (m : Nat) (xs : List Value), A < w.heap.size → v.ownBlock ≠ some A → Rds w 1 (some ⟨A, 0, none⟩) m xs → Rds w4 1 (some ⟨A, 0, none⟩) m xs := by
    intro A m xs hA hn hr
    refine (hr.alloc _).grown hgr fun b off e e' => ?_
    injection e with e
    injection e with e1 _ _
    subst e1
    exact hn e'
  have hlen : hs.length = F.length := by have := h.own.1; omega
  refine ⟨by simpa using how, fun i m hi => ?_⟩
  rcases Nat.lt_trichotomy i F.length with hlt | he | hgt
  · rw [List.getElem?_append_left hlt] at hi
    obtain ⟨g', ci', a1, a2, a3, a4, a5, a6⟩ := h.row i m hi
    exact ⟨g', ci', by rw [List.getElem?_append_left (by omega)]; exact a1, a2, a3, by omega, hne g' a4 a5, hkeep g' _ _ a4 a5 a6⟩
  · subst he
    have e : m = l := by simpa using hi.symm
    subst e
    refine ⟨g, ci, ?_, hl, hB, by omega, hne g hg hgv, hkeep g _ _ hg hgv hr⟩
    rw [List.getElem?_append_right (by omega), hlen]
    simp
  · rw [List.getElem?_eq_none (by simp; omega)] at hi
    cases hi
theorem GT.done {w : World} {B : Nat} {T : TypeId} {v : Value} {F : List (List Nat)} {hs : List Value} (h : GT w B T v F hs) : ∃ A c, v = .slice A F.length c ∧ F.length ≤ c ∧ (A = none → F = []) ∧ RT w A F := by
  obtain ⟨A, c, rfl, h1, h2, _⟩ := own_slice h.own
  refine ⟨A, c, rfl, h1, fun e => List.length_eq_zero_iff.1 (h2 e), hs, Rds.of_own h.own, fun i l hi => ?_⟩
  obtain ⟨g, ci, a1, a2, _, _, _, a6⟩ := h.row i l hi
  exact ⟨_, ci, a1, a2, a6⟩
end Go.Proofs.YtabgcpoaepafjaaGreat
namespace Go.Proofs.YtabgcpoaepafjaaGreat
open Go.RowKit
def memN (s n : Nat) : List Nat := (List.range n).filter (s.testBit ·)
def memI (s n : Nat) : List Int := List.map (fun x : Nat => (x : Int)) (memN s n)
theorem memI_length (s n : Nat) : (memI s n).length = (memN s n).length := by simp [memI]
theorem memN_succ (s n : Nat) : memN s (n + 1) = memN s n ++ if s.testBit n then [n] else [] := by
  unfold memN
  rw [List.range_succ, List.filter_append]
  cases h : s.testBit n <;> simp [h]
theorem memI_yes {s n : Nat} (h : s.testBit n = true) : memI s (n + 1) = memI s n ++ [(n : Int)] := by simp [memI, memN_succ, h]
theorem memI_no {s n : Nat} (h : s.testBit n = false) : memI s (n + 1) = memI s n := by simp [memI, memN_succ, h]
theorem memN_more {s i : Nat} (h : s < 2 ^ i) : ∀ d, memN s (i + d) = memN s i
  | 0 => rfl
  | d + 1 => by
    have : s.testBit (i + d) = false := Nat.testBit_lt_two_pow (Nat.lt_of_lt_of_le h (Nat.pow_le_pow_right (by decide) (by omega)))
    rw [← Nat.add_assoc, memN_succ, this, memN_more h d]
    simp
theorem memN_same {s i j : Nat} (hi : s < 2 ^ i) (hj : s < 2 ^ j) : memN s i = memN s j := by
  rcases Nat.le_total i j with h | h
  · have := memN_more hi (j - i)
    rw [← this]
    congr 1
    omega
  · have := memN_more hj (i - j)
    rw [← this]
    congr 1
    omega
theorem memN_length (s n : Nat) : (memN s n).length ≤ n := by
  have := List.length_filter_le (s.testBit ·) (List.range n)
  simpa [memN] using this
theorem memN_mem {s n k : Nat} : k ∈ memN s n ↔ k < n ∧ s.testBit k = true := by simp [memN]
theorem div_zero {s k : Nat} (h : s < 2 ^ k) : (s : Int) / 2 ^ k = 0 := by
  have e : (s : Int) / 2 ^ k = ((s / 2 ^ k : Nat) : Int) := by simp
  rw [e, Nat.div_eq_of_lt h]
  rfl
theorem div_pos {s k : Nat} (h : ¬ s < 2 ^ k) : 0 < (s : Int) / 2 ^ k := by
  have e : (s : Int) / 2 ^ k = ((s / 2 ^ k : Nat) : Int) := by simp
  rw [e]
  have := Nat.div_pos (Nat.le_of_not_lt h) (Nat.two_pow_pos k)
  omega
theorem enc_one (a : Int) : ∀ u ∈ [Value.int .i64 a], u.oneCell' = true := by intro u hu; simp at hu; subst hu; rfl
set_option maxHeartbeats 1000000 in
theorem membersOf_any (s n : Nat) (w : World) (hs : s < 2 ^ n) (hn : n ≤ 40) :
    Calls Tryz.prog 47 #[.int .i64 s] w fun e w' => ∃ A c, e = .returned (.slice A (memI s n).length c) ∧ w'.ownsRow w.heap.size 3 1 (.slice A (memI s n).length c) (memI s n).length (encI (memI s n)) ∧ Ext w w' := by
  obtain ⟨i0, hi, hz0, hz1, hz2⟩ := info_parts int_info
  have hs62 : s < 2 ^ 62 := Nat.lt_of_lt_of_le hs (Nat.pow_le_pow_right (by decide) (by omega))
  have HS := hide hs
  have HS2 := hide hs62
  clear hs hs62
  go_enter Tryz.func47, Tryz.ntmps47
  go_wp2_with fail
  go_loopw [3, 4] (fun v i wr => ∃ k : Nat, k ≤ n ∧ i = .int .i64 k ∧ wr.ownsRow w.heap.size 3 1 v (memI s k).length (encI (memI s k)) ∧ Ext w wr) (fun _ i _ => n + 1 - (intOf i).toNat)
  case atStart => exact ⟨0, Nat.zero_le _, rfl, World.ownsRow_nil w w.heap.size 3 1, Ext.refl _⟩
  case round =>
    obtain ⟨k, hk, rfl, hown, hE⟩ := hrel
    have HO := hide hown
    have HE := hide hE
    clear hown hE
    by_cases hlt : s < 2 ^ k
    · have HM := hide (memN_same hlt HS.out)
      have hd := div_zero hlt
      obtain ⟨A, c, e1, _⟩ := own_slice HO.out
      clear hlt
      subst e1
      go_wp2_with fail
      go_ret
      have e2 : memI s k = memI s n := by unfold memI; rw [HM.out]
      have ho := HO.out
      rw [e2] at ho
      exact ⟨A, c, by rw [e2]; rfl, ho, HE.out⟩
    · have hkn : k < n := by
        rcases Nat.lt_or_ge k n with h | h
        · exact h
        · exact absurd (Nat.lt_of_lt_of_le HS.out (Nat.pow_le_pow_right (by decide) h)) hlt
      have HD := hide (div_pos hlt)
      clear hlt
      by_cases hb : s.testBit k = true
      · have HBV := hide (show bits .and .i64 ((s : Int) / 2 ^ k) 1 = 1 by rw [bit_at s k HS2.out, if_pos hb])
        have HM := hide (memI_yes hb)
        have hml : (memI s k).length ≤ 40 := by rw [memI_length]; have := memN_length s k; omega
        clear hb
        have hsz := HE.out.size
        have hd := HD.out
        have hbv := HBV.out
        go_wp2_with (at_builtin; refine wpList_append_own _ rfl _ _ 31 rfl w.heap.size 3 i0 (.int .i64 0) 1 8 Tryz.underlying31 hi hz0 hz1 hz2 rfl (by decide) u3 (memI s k).length (encI (memI s k)) rfl (own_ext HO.out ((Ext.refl _).alloc _)) ⟨wr.heap.size, 0, none⟩ 1 1 [.int .i64 (k : Int)] rfl rfl (news_new wr #[.int .i64 (k : Int)] 3) (enc_one _) (by unfold maxLen; omega) (by omega) (by first | (simp; done) | (simp; omega)) ?_; intro v' w4 hown4 hgrow4 hnil)
        clear hd hbv
        have E4 := Ext.grown (HE.out.alloc _) hgrow4 (own_base HO.out (Nat.le_refl _))
        have ho4 : w4.ownsRow w.heap.size 3 1 v' (memI s (k + 1)).length (encI (memI s (k + 1))) := by
          rw [HM.out, encI_append, List.length_append]
          exact hown4
        have HO4 := hide ho4
        clear hown4 hgrow4 hnil ho4
        go_roundw
        case rel => exact ⟨k + 1, by omega, by go_num, HO4.out, E4⟩
        case measure => simp [intOf]; omega
      · have hb' : s.testBit k = false := by simpa using hb
        have HBV := hide (show bits .and .i64 ((s : Int) / 2 ^ k) 1 = 0 by rw [bit_at s k HS2.out, hb']; rfl)
        have HM := hide (memI_no hb')
        clear hb hb'
        have hd := HD.out
        have hbv := HBV.out
        go_wp2_with fail
        clear hd hbv
        go_roundw
        case rel => exact ⟨k + 1, by omega, by go_num, by rw [HM.out]; exact HO.out, HE.out⟩
        case measure => simp [intOf]; omega
end Go.Proofs.YtabgcpoaepafjaaGreat
namespace Go.Proofs.YtabgcpoaepafjaaGreat
def Sub (s t : Nat) : Prop := ∀ i, s.testBit i = true → t.testBit i = true
theorem Sub.refl (s : Nat) : Sub s s := fun _ h => h
theorem Sub.trans {s t u : Nat} (h : Sub s t) (g : Sub t u) : Sub s u := fun i hi => g i (h i hi)
theorem sub_or (s t : Nat) : Sub s (s ||| t) := fun i h => by simp [Nat.testBit_or, h]
theorem bit_lt {s n i : Nat} (hs : s < 2 ^ n) (h : s.testBit i = true) : i < n := by
  rcases Nat.lt_or_ge i n with hlt | hge
  · exact hlt
  · rw [Nat.testBit_lt_two_pow (Nat.lt_of_lt_of_le hs (Nat.pow_le_pow_right (by decide) hge))] at h
    cases h
theorem filter_imp {p q : Nat → Bool} (h : ∀ i, p i = true → q i = true) : ∀ l : List Nat, (l.filter p).Sublist (l.filter q)
  | [] => List.Sublist.slnil
  | x :: t => by
    have ih := filter_imp h t
    cases e : p x with
    | true => rw [List.filter_cons_of_pos e, List.filter_cons_of_pos (h x e)]; exact ih.cons_cons x
    | false =>
      rw [List.filter_cons_of_neg (by simp [e])]
      cases e2 : q x with
      | true => rw [List.filter_cons_of_pos e2]; exact ih.cons x
      | false => rw [List.filter_cons_of_neg (by simp [e2])]; exact ih
theorem bits_count {s t n : Nat} (hs : s < 2 ^ n) (ht : t < 2 ^ n) (h : Sub s t) (hne : t ≠ s) : (memN s n).length < (memN t n).length := by
  have h1 : (memN s n).Sublist (memN t n) := filter_imp (fun i hi => h i hi) _
  rcases Nat.lt_or_ge (memN s n).length (memN t n).length with hlt | hge
  · exact hlt
  · have h2 := h1.eq_of_length_le hge
    refine absurd (Nat.eq_of_testBit_eq fun i => ?_) hne
    have h3 : i ∈ memN s n ↔ i ∈ memN t n := by rw [h2]
    rw [memN_mem, memN_mem] at h3
    cases e1 : s.testBit i with
    | true => exact h i e1
    | false =>
      cases e2 : t.testBit i with
      | false => rfl
      | true =>
        have := (h3.2 ⟨bit_lt ht e2, e2⟩).2
        rw [e1] at this
        cases this
/-- f takes in what R reaches, and nothing else. -/
structure Closing (n : Nat) (R : Nat → Nat → Prop) (f : Nat → Nat) : Prop where
  infl : ∀ s, s < 2 ^ n → Sub s (f s)
  bound : ∀ s, s < 2 ^ n → f s < 2 ^ n
  sound : ∀ (C : Nat → Prop), (∀ i j, C i → R i j → C j) → ∀ s, s < 2 ^ n → (∀ i, s.testBit i = true → C i) → ∀ i, (f s).testBit i = true → C i
  fix : ∀ s, s < 2 ^ n → f s = s → ∀ i j, s.testBit i = true → R i j → s.testBit j = true
theorem Closing.it_lt {n : Nat} {R : Nat → Nat → Prop} {f : Nat → Nat} (h : Closing n R f) {s : Nat} (hs : s < 2 ^ n) : ∀ k, it f k s < 2 ^ n
  | 0 => hs
  | k + 1 => h.bound _ (h.it_lt hs k)
theorem Closing.it_sub {n : Nat} {R : Nat → Nat → Prop} {f : Nat → Nat} (h : Closing n R f) {s : Nat} (hs : s < 2 ^ n) : ∀ k, Sub s (it f k s)
  | 0 => Sub.refl s
  | k + 1 => (h.it_sub hs k).trans (h.infl _ (h.it_lt hs k))
theorem Closing.it_sound {n : Nat} {R : Nat → Nat → Prop} {f : Nat → Nat} (h : Closing n R f) {s : Nat} (hs : s < 2 ^ n) (C : Nat → Prop) (hC : ∀ i j, C i → R i j → C j) (h0 : ∀ i, s.testBit i = true → C i) : ∀ k i, (it f k s).testBit i = true → C i
  | 0 => h0
  | k + 1 => h.sound C hC _ (h.it_lt hs k) (h.it_sound hs C hC h0 k)
theorem Closing.stops {n : Nat} {R : Nat → Nat → Prop} {f : Nat → Nat} (h : Closing n R f) {s : Nat} (hs : s < 2 ^ n) (h0 : s ≠ 0) : f (it f n s) = it f n s := by
  have key : ∀ k, f (it f k s) = it f k s ∨ k + 1 ≤ (memN (it f k s) n).length := by
    intro k
    induction k with
    | zero =>
      refine .inr ?_
      obtain ⟨i, hi⟩ := Nat.exists_testBit_of_ne_zero h0
      exact List.length_pos_of_mem (memN_mem.2 ⟨bit_lt hs hi, hi⟩)
    | succ k ih =>
      by_cases e : f (it f k s) = it f k s
      · refine .inl ?_
        show f (f (it f k s)) = f (it f k s)
        rw [e, e]
      · rcases ih with ih | ih
        · exact absurd ih e
        · refine .inr ?_
          have := bits_count (h.it_lt hs k) (h.bound _ (h.it_lt hs k)) (h.infl _ (h.it_lt hs k)) e
          show k + 1 + 1 ≤ (memN (f (it f k s)) n).length
          omega
  rcases key n with e | e
  · exact e
  · have := memN_length (it f n s) n
    omega
/-- What the rounds hold: whatever every closed set holds. -/
theorem Closing.iff {n : Nat} {R : Nat → Nat → Prop} {f : Nat → Nat} (h : Closing n R f) {s : Nat} (hs : s < 2 ^ n) (h0 : s ≠ 0) (i : Nat) :
    (it f n s).testBit i = true ↔ ∀ C : Nat → Prop, (∀ i j, C i → R i j → C j) → (∀ i, s.testBit i = true → C i) → C i :=
  ⟨fun hi C hC hs0 => h.it_sound hs C hC hs0 n i hi, fun hi => hi _ (fun a b ha hab => h.fix _ (h.it_lt hs n) (h.stops hs h0) a b ha hab) (h.it_sub hs n)⟩
theorem Closing.same {n : Nat} {R : Nat → Nat → Prop} {f g : Nat → Nat} (h : Closing n R f) (k : Closing n R g) {s : Nat} (hs : s < 2 ^ n) (h0 : s ≠ 0) : it f n s = it g n s :=
  Nat.eq_of_testBit_eq fun i => by rw [Bool.eq_iff_iff, h.iff hs h0, k.iff hs h0]
/-- One round over the first k leads: where one end of a lead is in, both are. -/
def spreadTo (E : List P2) : Nat → Nat → Nat
  | 0, s => s
  | k + 1, s => if (spreadTo E k s).testBit (at2 E k).1.toNat = true ∨ (spreadTo E k s).testBit (at2 E k).2.toNat = true then spreadTo E k s ||| (2 ^ (at2 E k).1.toNat ||| 2 ^ (at2 E k).2.toNat) else spreadTo E k s
def joinedE (E : List P2) (i j : Nat) : Prop := ∃ k, k < E.length ∧ (((at2 E k).1.toNat = i ∧ (at2 E k).2.toNat = j) ∨ ((at2 E k).1.toNat = j ∧ (at2 E k).2.toNat = i))
theorem joinedE_symm {E : List P2} {i j : Nat} (h : joinedE E i j) : joinedE E j i := by
  obtain ⟨k, hk, h⟩ := h
  exact ⟨k, hk, h.symm⟩
theorem spread_sub (E : List P2) (s : Nat) : ∀ k, Sub s (spreadTo E k s)
  | 0 => Sub.refl s
  | k + 1 => by
    simp only [spreadTo]
    split
    · exact (spread_sub E s k).trans (sub_or _ _)
    · exact spread_sub E s k
theorem spread_lt {E : List P2} {n s : Nat} (hs : s < 2 ^ n) : ∀ k, (∀ j : Nat, j < k → (at2 E j).1.toNat < n ∧ (at2 E j).2.toNat < n) → spreadTo E k s < 2 ^ n
  | 0, _ => hs
  | k + 1, h => by
    have ih := spread_lt hs k fun j hj => h j (by omega)
    have h1 := h k (by omega)
    simp only [spreadTo]
    split
    · exact Nat.or_lt_two_pow ih (Nat.or_lt_two_pow (Nat.pow_lt_pow_right (by decide) h1.1) (Nat.pow_lt_pow_right (by decide) h1.2))
    · exact ih
theorem spread_sound {E : List P2} {C : Nat → Prop} (hC : ∀ i j, C i → joinedE E i j → C j) {s : Nat} (hs : ∀ i, s.testBit i = true → C i) : ∀ k, k ≤ E.length → ∀ i, (spreadTo E k s).testBit i = true → C i
  | 0, _ => hs
  | k + 1, hk => by
    have ih := spread_sound hC hs k (by omega)
    have hj : joinedE E (at2 E k).1.toNat (at2 E k).2.toNat := ⟨k, by omega, .inl ⟨rfl, rfl⟩⟩
    simp only [spreadTo]
    split
    · rename_i ho
      have hb : C (at2 E k).1.toNat ∧ C (at2 E k).2.toNat := by
        rcases ho with ho | ho
        · exact ⟨ih _ ho, hC _ _ (ih _ ho) hj⟩
        · exact ⟨hC _ _ (ih _ ho) (joinedE_symm hj), ih _ ho⟩
      intro i hi
      rw [Nat.testBit_or, Nat.testBit_or, Nat.testBit_two_pow, Nat.testBit_two_pow] at hi
      simp only [Bool.or_eq_true, decide_eq_true_eq] at hi
      rcases hi with hi | hi | hi
      · exact ih i hi
      · rw [← hi]; exact hb.1
      · rw [← hi]; exact hb.2
    · exact ih
theorem spread_end {E : List P2} {s : Nat} : ∀ k, spreadTo E k s = s → ∀ j : Nat, j < k → (s.testBit (at2 E j).1.toNat = true ↔ s.testBit (at2 E j).2.toNat = true)
  | 0, _, _, hj => absurd hj (by omega)
  | k + 1, h, j, hj => by
    have e : spreadTo E k s = s := by
      refine Nat.eq_of_testBit_eq fun i => ?_
      rw [Bool.eq_iff_iff]
      refine ⟨fun hi => ?_, spread_sub E s k i⟩
      have h1 : Sub (spreadTo E k s) (spreadTo E (k + 1) s) := by
        simp only [spreadTo]
        split
        · exact sub_or _ _
        · exact Sub.refl _
      rw [← h]
      exact h1 i hi
    rcases Nat.lt_or_ge j k with hlt | hge
    · exact spread_end k e j hlt
    · have : j = k := by omega
      subst this
      simp only [spreadTo, e] at h
      split at h
      · have h1 : (s ||| (2 ^ (at2 E j).1.toNat ||| 2 ^ (at2 E j).2.toNat)).testBit (at2 E j).1.toNat = true := by simp [Nat.testBit_or, Nat.testBit_two_pow]
        have h2 : (s ||| (2 ^ (at2 E j).1.toNat ||| 2 ^ (at2 E j).2.toNat)).testBit (at2 E j).2.toNat = true := by simp [Nat.testBit_or, Nat.testBit_two_pow]
        rw [h] at h1 h2
        rw [h1, h2]
      · rename_i hn
        rw [not_or] at hn
        exact ⟨fun h => absurd h hn.1, fun h => absurd h hn.2⟩
theorem spread_closing {E : List P2} {n : Nat} (h : ∀ j : Nat, j < E.length → (at2 E j).1.toNat < n ∧ (at2 E j).2.toNat < n) : Closing n (joinedE E) (spreadTo E E.length) where
  infl s _ := spread_sub E s _
  bound s hs := spread_lt hs _ h
  sound C hC s _ h0 := spread_sound hC h0 _ (Nat.le_refl _)
  fix s _ e i j hi hij := by
    obtain ⟨k, hk, hij⟩ := hij
    have := spread_end _ e k hk
    rcases hij with ⟨rfl, rfl⟩ | ⟨rfl, rfl⟩
    · exact this.1 hi
    · exact this.2 hi
/-- All nodes hang together. -/
def Whole (E : List P2) (n : Nat) : Prop := ∀ C : Nat → Prop, (∀ i j, C i → joinedE E i j → C j) → C 0 → ∀ i, i < n → C i
theorem whole_spread {E : List P2} {n : Nat} (hn : 0 < n) (h : ∀ j : Nat, j < E.length → (at2 E j).1.toNat < n ∧ (at2 E j).2.toNat < n) : (memN (it (spreadTo E E.length) n 1) n).length = n ↔ Whole E n := by
  have hc := spread_closing h
  have h1 : (1 : Nat) < 2 ^ n := Nat.one_lt_two_pow (by omega)
  have hb : ∀ i, (1 : Nat).testBit i = true ↔ i = 0 := fun i => by
    have : (1 : Nat) = 2 ^ 0 := rfl
    rw [this, Nat.testBit_two_pow]
    simp [eq_comm]
  constructor
  · intro hl C hC h0 i hi
    have h2 : memN (it (spreadTo E E.length) n 1) n = List.range n := (List.filter_sublist).eq_of_length (by rw [List.length_range]; exact hl)
    have h3 : i ∈ memN (it (spreadTo E E.length) n 1) n := by rw [h2]; exact List.mem_range.2 hi
    exact (hc.iff h1 (by decide) i).1 (memN_mem.1 h3).2 C hC fun i hi => by rw [(hb i).1 hi]; exact h0
  · intro hw
    have h2 : memN (it (spreadTo E E.length) n 1) n = List.range n := by
      refine List.filter_eq_self.2 fun i hi => ?_
      exact (hc.iff h1 (by decide) i).2 fun C hC h0 => hw C hC (h0 0 ((hb 0).2 rfl)) i (List.mem_range.1 hi)
    rw [h2, List.length_range]
/-- The numbers of the parts, as they are joined lead by lead. -/
def uniteL (l : List Int) (a b : Int) : List Int := l.map fun x => if x = max a b then min a b else x
def partsTo (E : List P2) (n : Nat) : Nat → List Int
  | 0 => (List.range n).map fun i : Nat => (i : Int)
  | k + 1 => uniteL (partsTo E n k) ((partsTo E n k).getD (at2 E k).1.toNat 0) ((partsTo E n k).getD (at2 E k).2.toNat 0)
theorem parts_length (E : List P2) (n : Nat) : ∀ k, (partsTo E n k).length = n
  | 0 => by simp [partsTo]
  | k + 1 => by simp [partsTo, uniteL, parts_length E n k]
theorem unite_get {l : List Int} {a b : Int} {i : Nat} (hi : i < l.length) : (uniteL l a b).getD i 0 = if l.getD i 0 = max a b then min a b else l.getD i 0 := by
  simp [uniteL, hi]
theorem parts_facts {E : List P2} {n : Nat} (hn : 0 < n) : ∀ k, k ≤ E.length → (∀ j, j < k → (at2 E j).1.toNat < n ∧ (at2 E j).2.toNat < n) →
    (partsTo E n k).getD 0 0 = 0 ∧ (∀ i, i < n → 0 ≤ (partsTo E n k).getD i 0) ∧ (∀ j, j < k → (partsTo E n k).getD (at2 E j).1.toNat 0 = (partsTo E n k).getD (at2 E j).2.toNat 0) ∧
    ∀ C : Nat → Prop, (∀ i j, C i → joinedE E i j → C j) → ∀ i j, i < n → j < n → (partsTo E n k).getD i 0 = (partsTo E n k).getD j 0 → (C i ↔ C j)
  | 0, _, _ => by
    have e : ∀ i, i < n → (partsTo E n 0).getD i 0 = (i : Int) := fun i hi => by simp [partsTo, hi]
    refine ⟨by rw [e 0 hn]; rfl, fun i hi => by rw [e i hi]; omega, fun j hj => absurd hj (by omega), fun C hC i j hi hj q => ?_⟩
    rw [e i hi, e j hj] at q
    have : i = j := by omega
    rw [this]
  | k + 1, hk, h => by
    obtain ⟨h1, h2, h3, h4⟩ := parts_facts hn k (by omega) fun j hj => h j (by omega)
    have hl := parts_length E n k
    have hu := h k (by omega)
    obtain ⟨a, ha⟩ : ∃ a, (partsTo E n k).getD (at2 E k).1.toNat 0 = a := ⟨_, rfl⟩
    obtain ⟨b, hb⟩ : ∃ b, (partsTo E n k).getD (at2 E k).2.toNat 0 = b := ⟨_, rfl⟩
    have a0 := h2 _ hu.1
    have b0 := h2 _ hu.2
    have e : ∀ i, i < n → (partsTo E n (k + 1)).getD i 0 = if (partsTo E n k).getD i 0 = max a b then min a b else (partsTo E n k).getD i 0 := fun i hi => by
      show (uniteL (partsTo E n k) ((partsTo E n k).getD (at2 E k).1.toNat 0) ((partsTo E n k).getD (at2 E k).2.toNat 0)).getD i 0 = _
      rw [ha, hb, unite_get (by omega)]
    rw [ha] at a0
    rw [hb] at b0
    refine ⟨?_, fun i hi => ?_, fun j hj => ?_, fun C hC i j hi hj q => ?_⟩
    · rw [e 0 hn, h1]
      split <;> omega
    · have := h2 i hi
      rw [e i hi]
      split <;> omega
    · have hj' := h j (by omega)
      rw [e _ hj'.1, e _ hj'.2]
      rcases Nat.lt_or_ge j k with hlt | hge
      · rw [h3 j hlt]
      · have : j = k := by omega
        subst this
        rw [ha, hb]
        split <;> split <;> omega
    · have hab : ∀ x y, x < n → y < n → (partsTo E n k).getD x 0 = a → (partsTo E n k).getD y 0 = b → (C x ↔ C y) := by
        intro x y hx hy hxa hyb
        have g1 := h4 C hC x (at2 E k).1.toNat hx hu.1 (by rw [hxa, ha])
        have g2 := h4 C hC y (at2 E k).2.toNat hy hu.2 (by rw [hyb, hb])
        have hj : joinedE E (at2 E k).1.toNat (at2 E k).2.toNat := ⟨k, by omega, .inl ⟨rfl, rfl⟩⟩
        exact g1.trans (Iff.trans ⟨fun c => hC _ _ c hj, fun c => hC _ _ c (joinedE_symm hj)⟩ g2.symm)
      rw [e i hi, e j hj] at q
      by_cases q1 : (partsTo E n k).getD i 0 = max a b <;> by_cases q2 : (partsTo E n k).getD j 0 = max a b
      · exact h4 C hC i j hi hj (by rw [q1, q2])
      · rw [if_pos q1, if_neg q2] at q
        rcases Int.le_total a b with hle | hle
        · have z1 : (partsTo E n k).getD i 0 = b := by omega
          have z2 : (partsTo E n k).getD j 0 = a := by omega
          exact (hab j i hj hi z2 z1).symm
        · have z1 : (partsTo E n k).getD i 0 = a := by omega
          have z2 : (partsTo E n k).getD j 0 = b := by omega
          exact hab i j hi hj z1 z2
      · rw [if_neg q1, if_pos q2] at q
        rcases Int.le_total a b with hle | hle
        · have z1 : (partsTo E n k).getD i 0 = a := by omega
          have z2 : (partsTo E n k).getD j 0 = b := by omega
          exact hab i j hi hj z1 z2
        · have z1 : (partsTo E n k).getD i 0 = b := by omega
          have z2 : (partsTo E n k).getD j 0 = a := by omega
          exact (hab j i hj hi z2 z1).symm
      · rw [if_neg q1, if_neg q2] at q
        exact h4 C hC i j hi hj q
theorem whole_parts {E : List P2} {n : Nat} (hn : 0 < n) (h : ∀ j : Nat, j < E.length → (at2 E j).1.toNat < n ∧ (at2 E j).2.toNat < n) : (∀ i, i < n → (partsTo E n E.length).getD i 0 = 0) ↔ Whole E n := by
  obtain ⟨h1, _, h3, h4⟩ := parts_facts hn E.length (Nat.le_refl _) h
  constructor
  · intro hz C hC h0 i hi
    exact (h4 C hC 0 i hn hi (by rw [h1, hz i hi])).1 h0
  · intro hw
    refine hw (fun i => (partsTo E n E.length).getD i 0 = 0) (fun i j hi hij => ?_) h1
    obtain ⟨k, hk, hij⟩ := hij
    have := h3 k hk
    rcases hij with ⟨rfl, rfl⟩ | ⟨rfl, rfl⟩
    · rw [← this]; exact hi
    · rw [this]; exact hi
end Go.Proofs.YtabgcpoaepafjaaGreat
namespace Go.Proofs.YtabgcpoaepafjaaGreat
theorem or_bit {s f i : Nat} : (s ||| 2 ^ f).testBit i = true ↔ s.testBit i = true ∨ f = i := by
  rw [Nat.testBit_or, Nat.testBit_two_pow]
  simp
end Go.Proofs.YtabgcpoaepafjaaGreat
