/- Plain law on the least cost of batches by parts: one round of the search, members of a set. No condition. -/
import Derived.Test.YtndbbdbnimmcoaaKilnP
import Derived.Test.YtndbbdbnimmcoaaMembers
set_option linter.unusedSimpArgs false
set_option linter.unusedVariables false
namespace Go.Proofs.Ytndbbdbnimmcoaa

theorem elems_snoc {α : Type} (x : α) : ∀ (l : List α) (p : Nat), elems (l ++ [x]) p = elems l p ++ if p.testBit l.length then [x] else []
  | [], p => by
    simp only [List.nil_append, elems, List.length_nil, Nat.testBit_zero]
    by_cases h : p % 2 = 1 <;> simp [h]
  | y :: t, p => by
    simp only [List.cons_append, elems, List.length_cons, Nat.testBit_succ]
    rw [elems_snoc x t (p / 2)]
    split <;> rfl
theorem memN_elems (p : Nat) : ∀ n, memN p n = elems (List.range n) p
  | 0 => rfl
  | n + 1 => by
    rw [memN_succ, memN_elems p n, List.range_succ, elems_snoc, List.length_range]
theorem elems_map {α β : Type} (f : α → β) : ∀ (l : List α) (p : Nat), elems (l.map f) p = (elems l p).map f
  | [], _ => rfl
  | x :: t, p => by
    simp only [List.map_cons, elems]
    rw [elems_map f t]
    split <;> rfl
/-- Element i of a list of panes. -/
def paneAt (L : List Q3') (i : Nat) : Q3' := L.getD i (0, 0, 0)
theorem paneAt_eq {L : List Q3'} {i : Nat} (h : i < L.length) : paneAt L i = L[i] := by simp [paneAt, h]
theorem list_panes (L : List Q3') : L = (List.range L.length).map (paneAt L) := by
  refine List.ext_getElem (by simp) (fun i h1 h2 => ?_)
  simp [paneAt, h1]
theorem elems_members (L : List Q3') (p : Nat) : elems L p = (memN p L.length).map (paneAt L) := by
  conv => lhs; rw [list_panes L]
  rw [elems_map, memN_elems]
def sameKey (x y : Q3') : Bool := decide (x.1 = y.1) && decide (x.2.1 = y.2.1)
theorem sameKey_true {x y : Q3'} : sameKey x y = true ↔ x.1 = y.1 ∧ x.2.1 = y.2.1 := by simp [sameKey]
/-- The sum of the rooms of the first j members. -/
def roomTo (L : List Q3') (m : List Nat) (j : Nat) : Int := ((m.take j).map fun i => (paneAt L i).2.2).sum
def alikeTo (L : List Q3') (m : List Nat) (x : Q3') (j : Nat) : Bool := (m.take j).all fun i => sameKey (paneAt L i) x
theorem roomTo_succ (L : List Q3') (m : List Nat) {j : Nat} (h : j < m.length) : roomTo L m (j + 1) = roomTo L m j + (paneAt L m[j]).2.2 := by
  unfold roomTo
  rw [List.take_succ_eq_append_getElem h, List.map_append, List.sum_append_int]
  simp
theorem alikeTo_succ (L : List Q3') (m : List Nat) (x : Q3') {j : Nat} (h : j < m.length) : alikeTo L m x (j + 1) = (alikeTo L m x j && sameKey (paneAt L m[j]) x) := by
  unfold alikeTo
  rw [List.take_succ_eq_append_getElem h, List.all_append]
  simp
theorem roomTo_in {L : List Q3'} {m : List Nat} (hL : ∀ y ∈ L, 1 ≤ y.2.2 ∧ y.2.2 ≤ 100) (hm : ∀ i ∈ m, i < L.length) : ∀ j, j ≤ m.length → 0 ≤ roomTo L m j ∧ roomTo L m j ≤ 100 * j
  | 0, _ => by simp [roomTo]
  | j + 1, h => by
    have ih := roomTo_in hL hm j (by omega)
    rw [roomTo_succ L m (by omega)]
    have h1 := hm _ (List.getElem_mem (show j < m.length by omega))
    have h2 := hL _ (List.getElem_mem h1)
    rw [paneAt_eq h1]
    push_cast
    omega
theorem good_iff {L : List Q3'} {f p : Nat} {x : Q3'} (hb : p.testBit f = true) : Good L f p x ↔ alikeTo L (memN p L.length) x (memN p L.length).length = true ∧ roomTo L (memN p L.length) (memN p L.length).length ≤ 100 := by
  unfold Good alikeTo roomTo
  rw [elems_members, List.take_length, List.map_map]
  simp only [List.all_eq_true, sameKey_true, List.mem_map, hb, true_and]
  constructor
  · rintro ⟨h1, h2⟩
    exact ⟨fun i hi => h1 _ ⟨i, hi, rfl⟩, h2⟩
  · rintro ⟨h1, h2⟩
    refine ⟨?_, h2⟩
    rintro y ⟨i, hi, rfl⟩
    exact h1 i hi
variable {c : Int × Int → Int}
/-- The search after the parts above p. -/
structure RunF (c : Int × Int → Int) (L : List Q3') (s f p : Nat) (x : Q3') (tab : Nat → Int) (v : Int) : Prop where
  small : v = 1073741824 ∨ Fir c (elems L s) v
  le : ∀ q, q &&& s = q → p < q → Good L f q x → v ≤ tab (s ^^^ q) + c (x.1, x.2.1)
theorem RunF.start (c : Int × Int → Int) (L : List Q3') (s f : Nat) (x : Q3') (tab : Nat → Int) : RunF c L s f s x tab 1073741824 :=
  ⟨.inl rfl, fun q hq hlt => absurd (sub_le hq) (by omega)⟩
theorem RunF.skip {L : List Q3'} {s f p : Nat} {x : Q3'} {tab : Nat → Int} {v : Int} (h : RunF c L s f p x tab v) (hp : p &&& s = p) (hg : Good L f p x → v ≤ tab (s ^^^ p) + c (x.1, x.2.1)) : RunF c L s f ((p - 1) &&& s) x tab v := by
  refine ⟨h.small, fun q hq hlt hgq => ?_⟩
  by_cases e : q = p
  · subst e; exact hg hgq
  · by_cases e2 : p < q
    · exact h.le q hq e2 hgq
    · have := sub_next hp hq (by omega)
      omega
theorem RunF.take {L : List Q3'} {s f p : Nat} {x : Q3'} {tab : Nat → Int} {v : Int} (h : RunF c L s f p x tab v) (hp : p &&& s = p) (hx : L[f]? = some x) (hg : Good L f p x) (ht : Fir c (elems L (s ^^^ p)) (tab (s ^^^ p))) (hlt : tab (s ^^^ p) + c (x.1, x.2.1) < v) :
    RunF c L s f ((p - 1) &&& s) x tab (tab (s ^^^ p) + c (x.1, x.2.1)) := by
  refine ⟨.inr (hg.fir hx hp ht), fun q hq hl hgq => ?_⟩
  by_cases e : q = p
  · subst e; exact Int.le_refl _
  · by_cases e2 : p < q
    · have := h.le q hq e2 hgq
      omega
    · have := sub_next hp hq (by omega)
      omega
theorem xor_less {s p : Nat} (h : p &&& s = p) (h0 : 0 < p) : s ^^^ p < s := by
  rw [xor_sub h]
  have := sub_le h
  omega
theorem RunF.done {L : List Q3'} {s f : Nat} {x : Q3'} {tab : Nat → Int} {v : Int} (h : RunF c L s f 0 x tab v) (hb : s.testBit f = true) (hx : L[f]? = some x) (hT : ∀ t, t < s → MinFir c (elems L t) (tab t))
    (hl : L.length ≤ 10) (hr : ∀ y ∈ L, y.2.2 ≤ 100) (hc : ∀ y ∈ L, 0 ≤ c (y.1, y.2.1) ∧ c (y.1, y.2.1) ≤ 24) : MinFir c (elems L s) v := by
  have low : ∀ u, Fir c (elems L s) u → v ≤ u := fun u hu => by
    obtain ⟨p, w, hp, hg, hw, e⟩ := Good.of hb hx hu
    have hp0 : 0 < p := by
      rcases Nat.eq_zero_or_pos p with e0 | e0
      · have := hg.1
        rw [e0, Nat.zero_testBit] at this
        exact absurd this (by simp)
      · exact e0
    have h1 := h.le p hp hp0 hg
    have h2 := (hT _ (xor_less hp hp0)).2 _ hw
    omega
  obtain ⟨u, hu, hle⟩ := Fir.ones (c := c) (M := 24) (elems L s) (elems_all hr s) (elems_all hc s)
  have h1 := low u hu
  have h2 := elems_length L s
  rcases h.small with e | e
  · omega
  · exact ⟨e, low⟩
theorem MinFir.bound {L : List Q3'} {v : Int} (h : MinFir c L v) (hl : L.length ≤ 10) (hr : ∀ y ∈ L, y.2.2 ≤ 100) (hc : ∀ y ∈ L, 0 ≤ c (y.1, y.2.1) ∧ c (y.1, y.2.1) ≤ 24) : 0 ≤ v ∧ v ≤ 240 := by
  obtain ⟨u, hu, hle⟩ := Fir.ones (c := c) (M := 24) L hr hc
  have h1 := h.2 u hu
  exact ⟨h.1.nonneg fun x hx => (hc x hx).1, by omega⟩
theorem RunF.congr {L : List Q3'} {s f p : Nat} {x : Q3'} {tab tab' : Nat → Int} {v : Int} (h : RunF c L s f p x tab v) (ht : ∀ t, t < s → tab' t = tab t) {p0 : Nat} (_ : p0 &&& s = p0) : RunF c L s f p x tab' v := by
  refine ⟨h.small, fun q hq hlt hg => ?_⟩
  have h0 : 0 < q := by omega
  rw [ht _ (xor_less hq h0)]
  exact h.le q hq hlt hg
/-- The sum over the kinds is the least cost. -/
theorem MinFir.ofKinds {L : List Q3'} {ks : List (Int × Int)} {m : Int × Int → Nat} (hk : ks.Nodup) (hl : ∀ x ∈ L, (x.1, x.2.1) ∈ ks) (hm : ∀ k ∈ ks, MinPk (rooms k L) (m k)) (hc : ∀ k ∈ ks, 0 ≤ c k) : MinFir c L (ks.map fun k => (m k : Int) * c k).sum := by
  refine ⟨Fir.ofKinds m ks L hk hl fun k hk => (hm k hk).1, fun u hu => ?_⟩
  obtain ⟨n, hn, hv⟩ := hu.kinds
  have h2 := hv ks hk hl
  have h3 : ∀ ks' : List (Int × Int), (∀ k ∈ ks', k ∈ ks) → (ks'.map fun k => (m k : Int) * c k).sum ≤ (ks'.map fun k => (n k : Int) * c k).sum := by
    intro ks'
    induction ks' with
    | nil => intro _; simp
    | cons a t ih =>
      intro hs
      have i1 := ih fun k hk => hs k (List.mem_cons_of_mem _ hk)
      have i2 := (hm a (hs a (by simp))).2 _ (hn a)
      have i3 := Int.mul_le_mul_of_nonneg_right (show (m a : Int) ≤ n a by omega) (hc a (hs a (by simp)))
      simp only [List.map_cons, List.sum_cons]
      omega
  have := h3 ks fun _ h => h
  omega
end Go.Proofs.Ytndbbdbnimmcoaa
