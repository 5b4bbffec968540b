/- Words and walks for the law FnMatches, a part of them. No condition but that the arguments lie in memory. -/
import Derived.Test.YtabgcpoaepafjaaGreatU2
import Derived.Test.YtabgcpoaepafjaaGreatU3
import Derived.Test.YtabgcpoaepafjaaGreatU13
import Derived.Test.YtabgcpoaepafjaaGreatU21
import Derived.Test.YtabgcpoaepafjaaGreatU22
import Derived.BigRegion
set_option linter.unusedVariables false
set_option linter.unusedSimpArgs false
namespace Go.Proofs.YtabgcpoaepafjaaGreat
open Shp
def gp (L : List P2) (i : Nat) : P2 := L.getD (i % L.length) (0, 0)
theorem gp_at {L : List P2} {i : Nat} (h : i < L.length) : gp L i = L[i] := by unfold gp; rw [Nat.mod_eq_of_lt h]; simp [h]
theorem gp_mod {L : List P2} {i j : Nat} (h : i % L.length = j % L.length) : gp L i = gp L j := by unfold gp; rw [h]
theorem gp_ext {L M : List P2} (hl : L.length = M.length) (h : ∀ i, i < L.length → gp L i = gp M i) : L = M := by
  apply List.ext_getElem hl
  intro i h1 h2
  have := h i h1
  rwa [gp_at h1, gp_at h2] at this
/-- The same shape, moved and begun elsewhere. -/
def Eqv (L M : List P2) : Prop := M.length = L.length ∧ ∃ (j : Nat) (u v : Int), ∀ i, gp M i = ((gp L (j + i)).1 + u, (gp L (j + i)).2 + v)
theorem Eqv.refl (L : List P2) : Eqv L L := ⟨rfl, 0, 0, 0, fun i => by simp⟩
theorem Eqv.trans {L M K : List P2} (h : Eqv L M) (k : Eqv M K) : Eqv L K := by
  obtain ⟨h1, j, u, v, h2⟩ := h
  obtain ⟨k1, j', u', v', k2⟩ := k
  refine ⟨k1.trans h1, j + j', u + u', v + v', fun i => ?_⟩
  rw [k2, h2, Nat.add_assoc]
  exact Prod.ext (by simp; omega) (by simp; omega)
theorem Eqv.symm {L M : List P2} (h : Eqv L M) : Eqv M L := by
  obtain ⟨h1, j, u, v, h2⟩ := h
  refine ⟨h1.symm, L.length - j % L.length, -u, -v, fun i => ?_⟩
  rw [h2]
  have e : gp L (j + (L.length - j % L.length + i)) = gp L i := by
    rcases Nat.eq_zero_or_pos L.length with h0 | h0
    · have : L = [] := List.length_eq_zero_iff.1 h0
      subst this
      rfl
    · apply gp_mod
      have h3 := Nat.mod_lt j h0
      have h4 := Nat.div_add_mod j L.length
      have h5 : j + (L.length - j % L.length + i) = i + L.length * (j / L.length + 1) := by rw [Nat.mul_add, Nat.mul_one]; omega
      rw [h5, Nat.add_mul_mod_self_left]
  rw [e]
  exact Prod.ext (by simp; omega) (by simp; omega)
theorem gp_turned (L : List P2) (i : Nat) : gp (turned L) i = (-(gp L i).2, (gp L i).1) := by
  unfold gp turned
  rw [List.length_map]
  rcases Nat.lt_or_ge (i % L.length) L.length with h | h
  · simp [h]
  · simp [List.getElem?_eq_none h]
theorem eqv_turned {L M : List P2} (h : Eqv L M) : Eqv (turned L) (turned M) := by
  obtain ⟨h1, j, u, v, h2⟩ := h
  refine ⟨by rw [turned_length, turned_length, h1], j, -v, u, fun i => ?_⟩
  rw [gp_turned, gp_turned, h2]
  exact Prod.ext (by simp; omega) (by simp)
theorem gp_mirrored {L : List P2} (h : 0 < L.length) (i : Nat) : gp (mirrored L) i = (-(gp L (L.length - 1 - i % L.length)).1, (gp L (L.length - 1 - i % L.length)).2) := by
  have hi := Nat.mod_lt i h
  have hk : L.length - 1 - i % L.length < L.length := by omega
  rw [gp_at hk]
  unfold gp mirrored
  rw [List.length_reverse, List.length_map]
  simp [List.getD, List.getElem?_reverse, hi, hk]
theorem rev_mod {n i j : Nat} (h : 0 < n) : (j + (n - 1 - i % n)) % n = (n - 1 - (n - j % n + i) % n) % n := by
  have ha := Nat.mod_lt i h
  have hb := Nat.mod_lt j h
  have e1 : (j + (n - 1 - i % n)) % n = (j % n + (n - 1 - i % n)) % n := (Nat.mod_add_mod j n _).symm
  have e2 : (n - j % n + i) % n = (n - j % n + i % n) % n := (Nat.add_mod_mod _ _ _).symm
  rw [e1, e2]
  generalize i % n = a at *
  generalize j % n = b at *
  rcases Nat.lt_or_ge a b with q | q
  · rw [Nat.mod_eq_of_lt (show n - b + a < n by omega), Nat.mod_eq_of_lt (show n - 1 - (n - b + a) < n by omega), Nat.mod_eq_sub_mod (by omega), Nat.mod_eq_of_lt (by omega)]
    omega
  · rw [Nat.mod_eq_sub_mod (show n - b + a ≥ n by omega), Nat.mod_eq_of_lt (show n - b + a - n < n by omega), Nat.mod_eq_of_lt (show n - 1 - (n - b + a - n) < n by omega), Nat.mod_eq_of_lt (by omega)]
    omega
theorem eqv_mirrored {L M : List P2} (h : Eqv L M) (h0 : 0 < L.length) : Eqv (mirrored L) (mirrored M) := by
  obtain ⟨h1, j, u, v, h2⟩ := h
  refine ⟨by rw [mirrored_length, mirrored_length, h1], L.length - j % L.length, -u, v, fun i => ?_⟩
  rw [gp_mirrored (by omega), gp_mirrored h0, h2, h1, gp_mod (rev_mod h0)]
  exact Prod.ext (by simp; omega) (by simp)
theorem turned_four (L : List P2) : turned (turned (turned (turned L))) = L := by
  unfold turned
  simp [Function.comp_def]
/-! the least numbers and the lowest node -/
def lexle (p q : P2) : Prop := p.2 < q.2 ∨ (p.2 = q.2 ∧ p.1 ≤ q.1)
theorem lexle_antisymm {p q : P2} (h : lexle p q) (k : lexle q p) : p = q := by
  unfold lexle at h k
  exact Prod.ext (by omega) (by omega)
theorem gd {L : List P2} {i : Nat} (h : i < L.length) : L.getD i (0, 0) = L[i] := by simp [h]
theorem fsT_low {L : List P2} (h0 : 0 < L.length) : ∀ k, k ≤ L.length → ∀ i, i < k → lexle (L.getD (fsT L k) (0, 0)) (L.getD i (0, 0))
  | 0, _, i, h => absurd h (by omega)
  | k + 1, hk, i, hik => by
    have hf := fsT_lt h0 k (by omega)
    have ih := fsT_low h0 k (by omega)
    have e := fsT_step (l := L) (k := k) (by omega) hf
    have hk' : k < L.length := by omega
    rw [← gd hf, ← gd hk'] at e
    by_cases hc : (L.getD k (0, 0)).2 < (L.getD (fsT L k) (0, 0)).2 ∨ ((L.getD k (0, 0)).2 = (L.getD (fsT L k) (0, 0)).2 ∧ (L.getD k (0, 0)).1 < (L.getD (fsT L k) (0, 0)).1)
    · rw [if_pos hc] at e
      rw [e]
      rcases Nat.lt_or_eq_of_le (Nat.le_of_lt_succ hik) with q | q
      · have := ih i q
        unfold lexle at *
        omega
      · subst q
        unfold lexle
        omega
    · rw [if_neg hc] at e
      rw [e]
      rcases Nat.lt_or_eq_of_le (Nat.le_of_lt_succ hik) with q | q
      · exact ih i q
      · subst q
        unfold lexle
        omega
theorem low {L : List P2} (h0 : 0 < L.length) (i : Nat) : lexle (gp L (fsT L L.length)) (gp L i) := by
  have hi := Nat.mod_lt i h0
  have := fsT_low h0 L.length (Nat.le_refl _) (i % L.length) hi
  unfold gp
  rw [Nat.mod_eq_of_lt (fsT_lt h0 _ (Nat.le_refl _))]
  exact this
theorem mn_le {f : P2 → Int} {L : List P2} (h0 : 0 < L.length) : ∀ k, k ≤ L.length → ∀ (i : Nat) (hi : i < L.length), i < k → mnF f L k ≤ f L[i]
  | 0, _, i, _, h => absurd h (by omega)
  | k + 1, hk, i, hi, hik => by
    have ih := mn_le (f := f) h0 k (by omega)
    rw [mnF_step f (by omega)]
    rcases Nat.lt_or_eq_of_le (Nat.le_of_lt_succ hik) with q | q
    · have := ih i hi q
      split <;> omega
    · subst q
      split <;> omega
theorem mn_at {f : P2 → Int} {L : List P2} (h0 : 0 < L.length) : ∀ k, k ≤ L.length → ∃ i, ∃ hi : i < L.length, mnF f L k = f L[i]
  | 0, _ => ⟨0, h0, mnF_zero f h0⟩
  | k + 1, hk => by
    obtain ⟨i, hi, e⟩ := mn_at (f := f) h0 k (by omega)
    rw [mnF_step f (by omega)]
    split
    · exact ⟨k, by omega, rfl⟩
    · exact ⟨i, hi, e⟩
def mnA (f : P2 → Int) (L : List P2) : Int := mnF f L L.length
theorem mnA_le (f : P2 → Int) {L : List P2} (h0 : 0 < L.length) (i : Nat) : mnA f L ≤ f (gp L i) := by
  have hi := Nat.mod_lt i h0
  rw [gp_mod (L := L) (i := i) (j := i % L.length) (by rw [Nat.mod_mod]), gp_at hi]
  exact mn_le h0 _ (Nat.le_refl _) _ hi hi
theorem mnA_at (f : P2 → Int) {L : List P2} (h0 : 0 < L.length) : ∃ i, mnA f L = f (gp L i) := by
  obtain ⟨i, hi, e⟩ := mn_at (f := f) h0 _ (Nat.le_refl _)
  exact ⟨i, by rw [gp_at hi]; exact e⟩
theorem gp_fit {L : List P2} (h0 : 0 < L.length) (i : Nat) : gp (fit L) i = ((gp L (fsT L L.length + i)).1 - mnA (·.1) L, (gp L (fsT L L.length + i)).2 - mnA (·.2) L) := by
  have hi := Nat.mod_lt i h0
  have e : gp (fit L) i = fitAt L (i % L.length) := by
    unfold gp
    rw [fit_length]
    unfold fit
    simp [hi]
  rw [e]
  unfold fitAt mnA gp
  rw [Nat.add_mod_mod]
theorem Eqv.fit {L : List P2} (h0 : 0 < L.length) : Eqv L (fit L) := ⟨fit_length L, fsT L L.length, -mnA (·.1) L, -mnA (·.2) L, fun i => by rw [gp_fit h0]; exact Prod.ext (by simp; omega) (by simp; omega)⟩
/-- No node twice. -/
def Nd (L : List P2) : Prop := ∀ i j, gp L i = gp L j → i % L.length = j % L.length
theorem mod_cancel {n a i j : Nat} (h : (a + i) % n = (a + j) % n) : i % n = j % n := by
  rcases Nat.eq_zero_or_pos n with h0 | h0
  · subst h0
    simp at h
    omega
  · have hr := Nat.mod_lt a h0
    have h1 : ((a + i) + (n - a % n)) % n = ((a + j) + (n - a % n)) % n := by rw [Nat.add_mod, h, ← Nat.add_mod]
    have h4 := Nat.div_add_mod a n
    have e : ∀ x, (a + x) + (n - a % n) = x + n * (a / n + 1) := fun x => by rw [Nat.mul_add, Nat.mul_one]; omega
    rw [e, e, Nat.add_mul_mod_self_left, Nat.add_mul_mod_self_left] at h1
    exact h1
theorem Nd.eqv {L M : List P2} (h : Nd L) (k : Eqv L M) : Nd M := by
  obtain ⟨k1, j, u, v, k2⟩ := k
  intro a b e
  rw [k2, k2] at e
  injection e with e1 e2
  have := h (j + a) (j + b) (Prod.ext (by omega) (by omega))
  rw [k1]
  exact mod_cancel this
theorem nd_turned {L : List P2} (h : Nd L) : Nd (turned L) := by
  intro a b e
  rw [gp_turned, gp_turned] at e
  injection e with e1 e2
  rw [turned_length]
  exact h a b (Prod.ext e2 (by omega))
theorem Nd.of_nodup {L : List P2} (h : L.Nodup) (h0 : 0 < L.length) : Nd L := by
  intro i j e
  have hi := Nat.mod_lt i h0
  have hj := Nat.mod_lt j h0
  rw [gp_mod (L := L) (i := i) (j := i % L.length) (by rw [Nat.mod_mod]), gp_mod (L := L) (i := j) (j := j % L.length) (by rw [Nat.mod_mod]), gp_at hi, gp_at hj] at e
  have h2 := List.pairwise_iff_getElem.1 h
  rcases Nat.lt_trichotomy (i % L.length) (j % L.length) with q | q | q
  · exact absurd e (h2 _ _ hi hj q)
  · exact q
  · exact absurd e.symm (h2 _ _ hj hi q)
theorem reach {L : List P2} (j i : Nat) : gp L (j + (L.length - j % L.length + i)) = gp L i := by
  rcases Nat.eq_zero_or_pos L.length with h0 | h0
  · have : L = [] := List.length_eq_zero_iff.1 h0
    subst this
    rfl
  · apply gp_mod
    have h3 := Nat.mod_lt j h0
    have h4 := Nat.div_add_mod j L.length
    have h5 : j + (L.length - j % L.length + i) = i + L.length * (j / L.length + 1) := by rw [Nat.mul_add, Nat.mul_one]; omega
    rw [h5, Nat.add_mul_mod_self_left]
/-- A shape that is its own copy has not moved. -/
theorem still {L : List P2} (h0 : 0 < L.length) {f : P2 → Int} {J : Nat} {t : Int} (h : ∀ i, f (gp L i) = f (gp L (J + i)) + t) : t = 0 := by
  obtain ⟨i1, p1⟩ := mnA_at f h0
  have a1 := mnA_le f h0 (J + i1)
  have a2 := h i1
  have b1 := mnA_le f h0 (L.length - J % L.length + i1)
  have b2 := h (L.length - J % L.length + i1)
  rw [reach] at b2
  omega
theorem fit_unique {L M : List P2} (h0 : 0 < L.length) (hn : Nd L) (h : Eqv L M) : fit L = fit M := by
  have hs := h.symm
  obtain ⟨h1, j, u, v, h2⟩ := h
  obtain ⟨_, j', u', v', h3⟩ := hs
  have hM : 0 < M.length := by omega
  -- the lowest nodes answer to one another
  have hj : (j + fsT M M.length) % L.length = fsT L L.length % L.length := by
    apply hn
    apply lexle_antisymm
    · have q := low hM (j' + fsT L L.length)
      have e := h3 (fsT L L.length)
      have e2 := h2 (fsT M M.length)
      have e3 := h2 (j' + fsT L L.length)
      rw [e2, e3] at q
      have e6 : gp L (fsT L L.length) = ((gp L (j + (j' + fsT L L.length))).1 + u + u', (gp L (j + (j' + fsT L L.length))).2 + v + v') := by rw [e, e3]
      have hb : ∀ i, gp L i = ((gp L (j + (j' + i))).1 + u + u', (gp L (j + (j' + i))).2 + v + v') := fun i => by rw [h3, h2]
      have hu : u + u' = 0 := still (f := (·.1)) (J := j + j') h0 fun i => by
        have := congrArg Prod.fst (hb i)
        rw [Nat.add_assoc]
        simpa [Int.add_assoc] using this
      have hv : v + v' = 0 := still (f := (·.2)) (J := j + j') h0 fun i => by
        have := congrArg Prod.snd (hb i)
        rw [Nat.add_assoc]
        simpa [Int.add_assoc] using this
      rw [e6]
      unfold lexle at q ⊢
      simp only at q ⊢
      omega
    · exact low h0 _
  have mn : ∀ (f : P2 → Int) (t : Int), (∀ i, f (gp M i) = f (gp L (j + i)) + t) → (∀ i, ∃ k, gp L i = gp L (j + k)) → mnA f M = mnA f L + t := by
    intro f t hf hk
    obtain ⟨i1, p1⟩ := mnA_at f h0
    obtain ⟨i2, p2⟩ := mnA_at f hM
    have a1 := mnA_le f h0 (j + i2)
    have a2 := hf i2
    obtain ⟨k, e⟩ := hk i1
    have a3 := mnA_le f hM k
    rw [hf, ← e] at a3
    omega
  have hk : ∀ i, ∃ k, gp L i = gp L (j + k) := fun i => ⟨_, (reach j i).symm⟩
  have m1 := mn (·.1) u (fun i => by rw [h2]) hk
  have m2 := mn (·.2) v (fun i => by rw [h2]) hk
  refine gp_ext (by rw [fit_length, fit_length, h1]) fun i _ => ?_
  rw [gp_fit h0, gp_fit hM, h2, m1, m2]
  have e : gp L (j + (fsT M M.length + i)) = gp L (fsT L L.length + i) := by
    apply gp_mod
    rw [← Nat.add_assoc, Nat.add_mod, hj, ← Nat.add_mod]
  rw [e]
  exact Prod.ext (by simp; omega) (by simp; omega)
/-! shapes -/
/-- No two nodes further apart than 20. -/
def E20 (L : List P2) : Prop := ∀ i k, (gp L i).1 - (gp L k).1 ≤ 20 ∧ (gp L i).2 - (gp L k).2 ≤ 20
theorem e20_turned {L : List P2} (h : E20 L) : E20 (turned L) := fun i k => by
  have := h i k
  have := h k i
  rw [gp_turned, gp_turned]
  simp only
  omega
theorem fit_ok {L : List P2} (h : E20 L) (h0 : 0 < L.length) : nodesOkB (fit L) = true := by
  refine List.all_eq_true.2 fun p hp => ?_
  obtain ⟨i, hi, rfl⟩ := List.getElem_of_mem hp
  rw [fit_length] at hi
  have e := gp_fit h0 i
  rw [gp_at (by rw [fit_length]; exact hi)] at e
  rw [e]
  obtain ⟨a, ea⟩ := mnA_at (·.1) h0
  obtain ⟨b, eb⟩ := mnA_at (·.2) h0
  have q1 := mnA_le (·.1) h0 (fsT L L.length + i)
  have q2 := mnA_le (·.2) h0 (fsT L L.length + i)
  have h1 := (h (fsT L L.length + i) a).1
  have h2 := (h (fsT L L.length + i) b).2
  (try simp only at ea eb q1 q2 h1 h2)
  unfold Shp.nodeOk inR
  simp only [Bool.and_eq_true, decide_eq_true_eq]
  omega
theorem E20.of_ok {L : List P2} (h : nodesOkB L = true) (h0 : 0 < L.length) : E20 L := fun i k => by
  have hi := Nat.mod_lt i h0
  have hk := Nat.mod_lt k h0
  have a := nodesOkB_at h hi
  have b := nodesOkB_at h hk
  rw [gp_mod (L := L) (i := i) (j := i % L.length) (by rw [Nat.mod_mod]), gp_mod (L := L) (i := k) (j := k % L.length) (by rw [Nat.mod_mod]), gp_at hi, gp_at hk]
  omega
structure NS (S : List P2) : Prop where
  pos : 0 < S.length
  nd : Nd S
  ok : nodesOkB S = true
  fix : fit S = S
theorem NS.of_fit {L : List P2} (h0 : 0 < L.length) (hn : Nd L) (he : E20 L) : NS (fit L) :=
  ⟨by rw [fit_length]; exact h0, hn.eqv (.fit h0), fit_ok he h0, (fit_unique h0 hn (.fit h0)).symm⟩
theorem turnV_of {S : List P2} (h : NS S) : turnV S = fit (turned S) := by
  unfold turnV
  rw [if_pos (by rw [h.ok]; simp [h.pos])]
theorem NS.turn {S : List P2} (h : NS S) : NS (turnV S) := by
  rw [turnV_of h]
  exact .of_fit (by rw [turned_length]; exact h.pos) (nd_turned h.nd) (e20_turned (E20.of_ok h.ok h.pos))
theorem turn_eqv {S : List P2} (h : NS S) : Eqv (turned S) (turnV S) := by rw [turnV_of h]; exact .fit (by rw [turned_length]; exact h.pos)
/-- Two normal shapes that are moved copies are the same. -/
theorem NS.eq {S T : List P2} (h : NS S) (k : NS T) (e : Eqv S T) : S = T := by rw [← h.fix, ← k.fix]; exact fit_unique h.pos h.nd e
theorem turn_four {S : List P2} (h : NS S) : turnV (turnV (turnV (turnV S))) = S := by
  have e1 := turn_eqv h
  have e2 := (eqv_turned e1).trans (turn_eqv h.turn)
  have e3 := (eqv_turned e2).trans (turn_eqv h.turn.turn)
  have e4 := (eqv_turned e3).trans (turn_eqv h.turn.turn.turn)
  rw [turned_four] at e4
  exact (h.eq h.turn.turn.turn.turn e4).symm
theorem same_self {S : List P2} (h : 0 < S.length) : sameB S S = true := by simp [sameB, h]
theorem alike_self {S : List P2} (h : NS S) : alikeB S S = true := alike_yes (k := 3) (by omega) (by
  have e : Shp.turnN S 4 = S := turn_four h
  rw [show 3 + 1 = 4 from rfl, e]
  exact same_self h.pos)
/-! areas -/
def crossP (p q : P2) : Int := p.1 * q.2 - p.2 * q.1
def arS (S : List P2) : Int := sumI (fun k => crossP (gp S k) (gp S (k + 1))) S.length
theorem sum_shift {F : Nat → Int} : ∀ n, sumI (fun k => F (k + 1)) n = sumI F n + F n - F 0
  | 0 => by simp [sumI]
  | n + 1 => by
    have := sum_shift (F := F) n
    simp only [sumI] at this ⊢
    omega
theorem sum_rot {F : Nat → Int} {n : Nat} (hp : ∀ i, F (i + n) = F i) : ∀ j, sumI (fun k => F (j + k)) n = sumI F n
  | 0 => by simp
  | j + 1 => by
    have h := sum_shift (F := fun k => F (j + k)) n
    have e := sum_rot hp j
    have e2 : (fun k => F (j + 1 + k)) = fun k => F (j + (k + 1)) := by funext k; congr 1; omega
    rw [e2]
    have e3 : F (j + n) = F j := hp j
    have h2 : sumI (fun k => F (j + (k + 1))) n = sumI (fun k => F (j + k)) n + F (j + n) - F (j + 0) := h
    rw [h2, e, e3, Nat.add_zero]
    omega
theorem ar_eqv {L M : List P2} (h : Eqv L M) : arS M = arS L := by
  obtain ⟨h1, j, u, v, h2⟩ := h
  unfold arS
  rw [h1]
  have hp : ∀ i, gp L (i + L.length) = gp L i := fun i => gp_mod (Nat.add_mod_right _ _)
  have e : sumI (fun k => crossP (gp M k) (gp M (k + 1))) L.length = sumI (fun k => crossP (gp L (j + k)) (gp L (j + k + 1)) + ((u * (gp L (j + (k + 1))).2 - v * (gp L (j + (k + 1))).1) - (u * (gp L (j + k)).2 - v * (gp L (j + k)).1))) L.length := by
    apply sumI_congr
    intro k _
    rw [h2, h2]
    unfold crossP
    simp only [Nat.add_assoc]
    grind
  rw [e, sumI_add]
  have t : sumI (fun k => (u * (gp L (j + (k + 1))).2 - v * (gp L (j + (k + 1))).1) - (u * (gp L (j + k)).2 - v * (gp L (j + k)).1)) L.length = 0 := by
    have a := sum_shift (F := fun k => u * (gp L (j + k)).2 - v * (gp L (j + k)).1) L.length
    have b : sumI (fun k => (u * (gp L (j + (k + 1))).2 - v * (gp L (j + (k + 1))).1) - (u * (gp L (j + k)).2 - v * (gp L (j + k)).1)) L.length = sumI (fun k => u * (gp L (j + (k + 1))).2 - v * (gp L (j + (k + 1))).1) L.length + - sumI (fun k => u * (gp L (j + k)).2 - v * (gp L (j + k)).1) L.length := by
      rw [← sumI_neg, ← sumI_add]
      rfl
    rw [b]
    have a2 : sumI (fun k => u * (gp L (j + (k + 1))).2 - v * (gp L (j + (k + 1))).1) L.length = sumI (fun k => u * (gp L (j + k)).2 - v * (gp L (j + k)).1) L.length + (u * (gp L (j + L.length)).2 - v * (gp L (j + L.length)).1) - (u * (gp L (j + 0)).2 - v * (gp L (j + 0)).1) := a
    rw [a2, hp, Nat.add_zero]
    omega
  rw [t, Int.add_zero]
  exact sum_rot (F := fun k => crossP (gp L k) (gp L (k + 1))) (fun i => by show crossP (gp L (i + L.length)) (gp L (i + L.length + 1)) = _; rw [hp, show i + L.length + 1 = i + 1 + L.length by omega, hp]) j
end Go.Proofs.YtabgcpoaepafjaaGreat
namespace Go.Proofs.YtabgcpoaepafjaaGreat
theorem fcs_faces {N E : List P2} (h : wholeB N E = true) : fcs N E = facesL N E := fcs_yes h
/-- The outer face of a whole window. -/
theorem outer_whole {N E : List P2} (h : wholeB N E = true) : ∃ k0, k0 < (fcs N E).length ∧ outerI N E = (k0 : Nat) ∧ (∀ k, k < (fcs N E).length → k ≠ k0 → 0 < areaL N E ((fcs N E).getD k [])) ∧ areaL N E ((fcs N E).getD k0 []) ≤ 0 ∧ (1 < (fcs N E).length → areaL N E ((fcs N E).getD k0 []) < 0) := by
  obtain ⟨hW, hm, hwh⟩ := wholeB_iff.1 h
  obtain ⟨k0, h1, h2, h3, h4⟩ := outer_one hW hm hwh
  rw [← fcs_faces h] at h1 h2 h3 h4
  have e : ∀ k (hk : k < (fcs N E).length), (fcs N E).getD k [] = (fcs N E)[k] := fun k hk => by simp [hk]
  refine ⟨k0, h1, outer_at h1 (by rw [← e]; exact h3) (fun j hj hlt => ?_), h2, h3, h4⟩
  rw [← e]
  exact h2 j hj (by omega)
end Go.Proofs.YtabgcpoaepafjaaGreat
namespace Go.Proofs.YtabgcpoaepafjaaGreat
open Go.RowKit
theorem or_shl {u f : Nat} (hu : u < 2 ^ 60) (hf : f < 60) : bits .or .i64 (u : Int) (IntKind.i64.wrap ((2 : Int) ^ f)) = ((u ||| 2 ^ f : Nat) : Int) := by
  have h1 : 2 ^ f < 2 ^ 60 := Nat.pow_lt_pow_right (by decide) hf
  rw [shl_one (by omega), i64_or _ _ (by omega) (by omega)]
theorem wrap64_eq (n : Int) : wrap64 n = IntKind.i64.wrap n := by simp only [wrap64, IntKind.wrap_i64]
end Go.Proofs.YtabgcpoaepafjaaGreat
namespace Go.Proofs.YtabgcpoaepafjaaGreat
open Go.RowKit
/-- The outer face of a whole window. -/
noncomputable def oN (N E : List P2) : Nat := (fcs N E).findIdx (fun l => decide (areaL N E l ≤ 0))
theorem pow_word {n : Nat} (hn : n < 62) : IntKind.i64.wrap ((2 : Int) ^ n) = ((2 ^ n : Nat) : Int) := shl_one hn
end Go.Proofs.YtabgcpoaepafjaaGreat
namespace Go.Proofs.YtabgcpoaepafjaaGreat
/-- The set of the first k of the numbers F. -/
def setTo (F : Nat → Nat) : Nat → Nat
  | 0 => 0
  | k + 1 => setTo F k ||| 2 ^ F k
theorem setTo_bit {F : Nat → Nat} {j : Nat} : ∀ k, (setTo F k).testBit j = true ↔ ∃ i, i < k ∧ F i = j
  | 0 => by simp [setTo]
  | k + 1 => by
    simp only [setTo]
    rw [or_bit, setTo_bit k]
    constructor
    · rintro (⟨i, h1, h2⟩ | h)
      · exact ⟨i, by omega, h2⟩
      · exact ⟨k, by omega, h⟩
    · rintro ⟨i, h1, h2⟩
      rcases Nat.lt_or_ge i k with h | h
      · exact .inl ⟨i, h, h2⟩
      · have : i = k := by omega
        subst this
        exact .inr h2
/-- The first k numbers are set one by one: each a face, each new, each beside one before it. -/
def StepI (b : Nat → Nat → Bool) (R : Nat → Bool) (F : Nat → Nat) (k : Nat) : Prop := ∀ j, j < k → R j = true ∧ (∀ i, i < j → F i ≠ F j) ∧ (j = 0 ∨ ∃ i, i < j ∧ b (F i) (F j) = true)
theorem StepI.next {b : Nat → Nat → Bool} {R : Nat → Bool} {F : Nat → Nat} {k : Nat} (h : StepI b R F k) (h1 : R k = true) (h2 : (setTo F k).testBit (F k) = false) (h3 : k = 0 ∨ ∃ i, i < k ∧ b (F i) (F k) = true) : StepI b R F (k + 1) := by
  intro j hj
  rcases Nat.lt_or_ge j k with hlt | hge
  · exact h j hlt
  · have : j = k := by omega
    subst this
    refine ⟨h1, fun i hi e => ?_, h3⟩
    have : (setTo F j).testBit (F j) = true := (setTo_bit j).2 ⟨i, hi, e⟩
    rw [h2] at this
    cases this
end Go.Proofs.YtabgcpoaepafjaaGreat
namespace Go.Proofs.YtabgcpoaepafjaaGreat
open Go.RowKit
/-- The table f with one place changed. -/
def updB (f : Nat → Nat → Bool) (i j : Nat) (v : Bool) : Nat → Nat → Bool := fun a b => if a = i ∧ b = j then v else f a b
theorem updB_ne (f : Nat → Nat → Bool) (i j : Nat) (v : Bool) {a b : Nat} (h : a ≠ i ∨ b ≠ j) : updB f i j v a b = f a b := by
  unfold updB
  rw [if_neg (by omega)]
/-- A row of bools. -/
def rowB (n : Nat) (f : Nat → Bool) : List Value := (List.range n).map fun j => Value.bool (f j)
theorem rowB_get {n j : Nat} (f : Nat → Bool) (h : j < n) : (rowB n f)[j]? = some (.bool (f j)) := by simp [rowB, h]
theorem rowB_length (n : Nat) (f : Nat → Bool) : (rowB n f).length = n := by simp [rowB]
theorem rowB_set {n j : Nat} (f : Nat → Bool) (v : Bool) (h : j < n) : (rowB n f).set j (.bool v) = rowB n (fun k => if k = j then v else f k) := by
  apply List.ext_getElem?
  intro k
  by_cases hk : k = j
  · subst hk
    rw [List.getElem?_set_self (by rw [rowB_length]; exact h), rowB_get _ h]
    simp
  · rw [List.getElem?_set_ne (fun e => hk e.symm)]
    by_cases hkn : k < n
    · rw [rowB_get _ hkn, rowB_get _ hkn]
      simp [hk]
    · rw [List.getElem?_eq_none (by rw [rowB_length]; omega), List.getElem?_eq_none (by rw [rowB_length]; omega)]
/-- Block hd holds n headers at least; the first n rows, of n bools each, read as f; all blocks lie below U. -/
def MatB (w : World) (B U hd n : Nat) (Th Te : TypeId) (f : Nat → Nat → Bool) : Prop :=
  ∃ (G : Nat → Nat) (hs : List Value), B ≤ hd ∧ hd < U ∧ Blk w hd Th hs ∧ n ≤ hs.length ∧ (∀ i, i < n → hs[i]? = some (.slice (some ⟨G i, 0, none⟩) n n) ∧ B ≤ G i ∧ G i < U ∧ G i ≠ hd ∧ Blk w (G i) Te (rowB n (f i))) ∧ (∀ i j, i < n → j < n → G i = G j → i = j)
section
variable {w w' : World} {B U hd n : Nat} {Th Te : TypeId} {f f' : Nat → Nat → Bool}
theorem MatB.ext (h : MatB w B U hd n Th Te f) (hE : Ext w w') : MatB w' B U hd n Th Te f := by
  obtain ⟨G, hs, h1, h0, h2, h3, h5, h6⟩ := h
  exact ⟨G, hs, h1, h0, h2.ext hE, h3, fun i hi => ⟨(h5 i hi).1, (h5 i hi).2.1, (h5 i hi).2.2.1, (h5 i hi).2.2.2.1, (h5 i hi).2.2.2.2.ext hE⟩, h6⟩
theorem MatB.mono {B' U' : Nat} (h : MatB w B U hd n Th Te f) (hB : B' ≤ B) (hU : U ≤ U') : MatB w B' U' hd n Th Te f := by
  obtain ⟨G, hs, h1, h0, h2, h3, h5, h6⟩ := h
  exact ⟨G, hs, by omega, by omega, h2, h3, fun i hi => ⟨(h5 i hi).1, Nat.le_trans hB (h5 i hi).2.1, Nat.lt_of_lt_of_le (h5 i hi).2.2.1 hU, (h5 i hi).2.2.2⟩, h6⟩
theorem MatB.lt (h : MatB w B U hd n Th Te f) : B ≤ hd ∧ hd < U ∧ hd < w.heap.size := by
  obtain ⟨G, hs, h1, h0, h2, _⟩ := h
  exact ⟨h1, h0, h2.lt⟩
/-- A place of the table: its header, its cell, and what a store there leaves. -/
theorem MatB.at_ (h : MatB w B U hd n Th Te f) {i j : Nat} (hi : i < n) (hj : j < n) : ∃ g, w.cell? ⟨hd, i, none⟩ = some (.slice (some ⟨g, 0, none⟩) n n) ∧ w.cell? ⟨g, j, none⟩ = some (.bool (f i j)) ∧ w.frozen? ⟨g, j, none⟩ = false ∧
    B ≤ g ∧ g < U ∧ g < w.heap.size ∧ ∀ v, MatB (w.setCell ⟨g, j, none⟩ (.bool v)) B U hd n Th Te (updB f i j v) := by
  obtain ⟨G, hs, h1, h0, h2, h3, h5, h6⟩ := h
  obtain ⟨e1, e2, e0, e3, e4⟩ := h5 i hi
  refine ⟨G i, by rw [h2.cell, e1], by rw [e4.cell, rowB_get _ hj], e4.free _, e2, e0, e4.lt, fun v => ?_⟩
  refine ⟨G, hs, h1, h0, h2.other (fun e => e3 e.symm) _, h3, fun k hk => ⟨(h5 k hk).1, (h5 k hk).2.1, (h5 k hk).2.2.1, (h5 k hk).2.2.2.1, ?_⟩, h6⟩
  by_cases hki : k = i
  · subst hki
    have := e4.set j (.bool v)
    rw [rowB_set _ _ hj] at this
    have e : (fun b => if b = j then v else f k b) = updB f k j v k := by
      funext b
      simp [updB]
    rw [← e]
    exact this
  · have e : f k = updB f i j v k := by
      funext b
      rw [updB_ne _ _ _ _ (.inl hki)]
    rw [← e]
    exact (h5 k hk).2.2.2.2.other (fun e => hki (h6 k i hk hi e)) _
end
/-- A row of k headers that grows, each header's row of n zeros in a block of its own. -/
def HdrB (w : World) (B : Nat) (v : Value) (k n : Nat) (Th Te : TypeId) : Prop :=
  ∃ G : Nat → Nat, w.ownsRow B Th 1 v k ((List.range k).map fun i => Value.slice (some ⟨G i, 0, none⟩) n n) ∧ (∀ i, i < k → B ≤ G i ∧ v.ownBlock ≠ some (G i) ∧ Blk w (G i) Te (List.replicate n (Value.bool false))) ∧ ∀ i j, i < k → j < k → G i = G j → i = j
theorem HdrB.step {w w2 w4 : World} {B k n g : Nat} {v v' : Value} {Th Te : TypeId} {G : Nat → Nat} (h1 : w.ownsRow B Th 1 v k ((List.range k).map fun i => Value.slice (some ⟨G i, 0, none⟩) n n)) (h2 : ∀ i, i < k → B ≤ G i ∧ v.ownBlock ≠ some (G i) ∧ Blk w (G i) Te (List.replicate n (Value.bool false))) (h3 : ∀ i j, i < k → j < k → G i = G j → i = j) (hE : Ext w w2) (hg : g = w.heap.size) (hB : B ≤ w.heap.size) (hb : Blk w2 g Te (List.replicate n (Value.bool false)))
    (hgr : (w2.alloc (.cells #[Value.slice (some ⟨g, 0, none⟩) n n] Th)).grownBy w4 v.ownBlock) (hv : v'.ownBlock = v.ownBlock ∨ v'.ownBlock = some (w2.alloc (.cells #[Value.slice (some ⟨g, 0, none⟩) n n] Th)).heap.size)
    (how : w4.ownsRow B Th 1 v' (k + 1) ((List.range k).map (fun i => Value.slice (some ⟨G i, 0, none⟩) n n) ++ [Value.slice (some ⟨g, 0, none⟩) n n])) : HdrB w4 B v' (k + 1) n Th Te := by
  have hlt : ∀ i, i < k → G i < w.heap.size := fun i hi => (h2 i hi).2.2.lt
  have hgl := hb.lt
  have hsz := hE.size
  have hne : ∀ x, x < w2.heap.size → v.ownBlock ≠ some x → v'.ownBlock ≠ some x := by
    intro x hx hn e
    rcases hv with e' | e'
    · rw [e'] at e
      exact hn e
    · rw [e'] at e
      injection e with e
      simp at e
      omega
  have hvg : v.ownBlock ≠ some g := by
    intro e
    have := (h1.lt g e).2
    omega
  refine ⟨fun i => if i = k then g else G i, ?_, fun i hi => ?_, fun i j hi hj e => ?_⟩
  · have := how
    have e : (List.range (k + 1)).map (fun i => Value.slice (some ⟨if i = k then g else G i, 0, none⟩) n n) = (List.range k).map (fun i => Value.slice (some ⟨G i, 0, none⟩) n n) ++ [Value.slice (some ⟨g, 0, none⟩) n n] := by
      rw [List.range_succ, List.map_append]
      congr 1
      · apply List.map_congr_left
        intro i hi
        have := List.mem_range.1 hi
        rw [if_neg (by omega)]
      · simp
    rw [e]
    exact this
  · by_cases hik : i = k
    · subst hik
      simp only [if_true]
      exact ⟨by omega, hne g hgl hvg, (hb.ext ((Ext.refl _).alloc _)).grown hgr hvg⟩
    · simp only [hik, if_false]
      obtain ⟨e1, e2, e3⟩ := h2 i (by omega)
      exact ⟨e1, hne _ (Nat.lt_of_lt_of_le e3.lt hsz) e2, ((e3.ext hE).ext ((Ext.refl _).alloc _)).grown hgr e2⟩
  · have a1 := hlt i
    have a2 := hlt j
    have a3 := h3 i j
    by_cases hik : i = k <;> by_cases hjk : j = k <;> simp [hik, hjk] at e <;> omega
end Go.Proofs.YtabgcpoaepafjaaGreat
namespace Go.Proofs.YtabgcpoaepafjaaGreat
open Go.RowKit
end Go.Proofs.YtabgcpoaepafjaaGreat
namespace Go.Proofs.YtabgcpoaepafjaaGreat
open Go.RowKit
end Go.Proofs.YtabgcpoaepafjaaGreat
namespace Go.Proofs.YtabgcpoaepafjaaGreat
open Go.RowKit
end Go.Proofs.YtabgcpoaepafjaaGreat
namespace Go.Proofs.YtabgcpoaepafjaaGreat
open Go.RowKit
theorem grow_carry {a b c : World} {g0 : Nat} {row : Option Nat} (h : a.grownBy b (some g0)) (k : b.grownBy c row) (hr : ∀ g, row = some g → g = g0 ∨ a.heap.size ≤ g) : a.grownBy c (some g0) where
  os := k.os.trans h.os
  tape := k.tape.trans h.tape
  output := k.output.trans h.output
  size := Nat.le_trans h.size k.size
  block i hi hne := by
    have hib : i < b.heap.size := Nat.lt_of_lt_of_le hi h.size
    rw [k.block i hib fun e => ?_, h.block i hi hne]
    rcases hr i e.symm with q | q
    · exact hne (by rw [q])
    · omega
/-- The list of a call: it lies in its first block g0 or in a block that is new since a; nothing else has turned since a. -/
def OutR (a w : World) (g0 : Nat) (T : TypeId) (sz : Nat) (v : Value) (n : Nat) (xs : List Value) : Prop :=
  w.ownsRow g0 T sz v n xs ∧ a.grownBy w (some g0) ∧ ∀ k, v.ownBlock = some k → k = g0 ∨ a.heap.size ≤ k
section
variable {a w w' : World} {g0 : Nat} {T : TypeId} {sz : Nat} {v v' : Value} {n m : Nat} {xs ys : List Value}
theorem OutR.start (h : a.ownsRow g0 T sz v n xs) (hk : ∀ k, v.ownBlock = some k → k = g0) : OutR a a g0 T sz v n xs := ⟨h, World.grownBy.refl _ _, fun k e => .inl (hk k e)⟩
theorem OutR.ext (h : OutR a w g0 T sz v n xs) (hE : Ext w w') : OutR a w' g0 T sz v n xs :=
  ⟨own_ext h.1 hE, grow_carry h.2.1 (row := none) ⟨hE.os, hE.tape, hE.output, hE.size, fun k hk _ => hE.block k hk⟩ (fun _ e => by cases e), h.2.2⟩
theorem OutR.app (h : OutR a w g0 T sz v n xs) {o : Obj} (hown : w'.ownsRow g0 T sz v' m ys) (hg : (w.alloc o).grownBy w' v.ownBlock) (hl : v'.ownBlock = v.ownBlock ∨ v'.ownBlock = some (w.alloc o).heap.size) : OutR a w' g0 T sz v' m ys := by
  have h1 : a.grownBy (w.alloc o) (some g0) := (h.ext ((Ext.refl w).alloc o)).2.1
  refine ⟨hown, grow_carry h1 hg h.2.2, fun k e => ?_⟩
  rcases hl with q | q
  · exact h.2.2 k (by rw [← q]; exact e)
  · rw [q] at e
    injection e with e
    exact .inr (by rw [← e]; exact h1.size)
theorem OutR.app2 (h : OutR a w g0 T sz v n xs) {w1 : World} (hE : Ext w w1) {g c H : Nat} (hown : w'.ownsRow g0 T sz (.slice (some ⟨g, 0, none⟩) m c) m ys) (hg : w1.grownBy w' v.ownBlock) (hl : v.ownBlock = some g ∨ g = H) (hH : w.heap.size ≤ H) : OutR a w' g0 T sz (.slice (some ⟨g, 0, none⟩) m c) m ys := by
  refine ⟨hown, grow_carry (h.ext hE).2.1 hg h.2.2, fun k e => ?_⟩
  have e : some g = some k := e
  injection e with e
  subst e
  rcases hl with q | q
  · exact h.2.2 g q
  · exact .inr (by rw [q]; exact Nat.le_trans h.2.1.size hH)
theorem OutR.ext0 {w0 : World} (h : OutR a w g0 T sz v n xs) (hE : Ext w0 a) (hg : w0.heap.size ≤ g0) : Ext w0 w := hE.grown h.2.1 fun k e => by injection e with e; omega
theorem OutR.cell (h : OutR a w g0 T sz v n xs) {b o : Nat} {x : Value} (hb : b < a.heap.size) (hne : b ≠ g0) (hc : a.cell? ⟨b, o, none⟩ = some x) : w.cell? ⟨b, o, none⟩ = some x := by
  rw [← hc]
  exact World.cell?_of_block (h.2.1.block b hb fun e => hne (by injection e))
theorem OutR.frozen (h : OutR a w g0 T sz v n xs) {b o : Nat} (hb : b < a.heap.size) (hne : b ≠ g0) : w.frozen? ⟨b, o, none⟩ = a.frozen? ⟨b, o, none⟩ := World.frozen?_of_block (h.2.1.block b hb fun e => hne (by injection e))
theorem OutR.rds {A : Option Addr} {k s : Nat} {zs : List Value} (h : OutR a w g0 T sz v n xs) (hr : Rds a s A k zs) (hne : ∀ b off, A = some ⟨b, off, none⟩ → b ≠ g0) : Rds w s A k zs := hr.grown h.2.1 fun b off e q => hne b off e (by injection q with q; exact q.symm)
end
/-- What can be read does not lie in an empty block. -/
theorem ne_empty {w : World} {base g0 b i sz : Nat} {T : TypeId} {v : Value} (h : w.ownsRow base T sz (.slice (some ⟨g0, 0, none⟩) 0 0) 0 []) (hc : w.cell? ⟨b, i, none⟩ = some v) : b ≠ g0 := by
  rintro rfl
  rcases h.2 with ⟨h1, _⟩ | ⟨g, cap, cur, h1, _, h2, _, _, h3, _⟩
  · cases h1
  · injection h1 with h1 _ h4
    injection h1 with h1
    injection h1 with h1
    subst h1 h4
    rw [Nat.zero_mul] at h3
    simp only [World.cell?, h2] at hc
    rw [Array.getElem?_eq_none (by omega)] at hc
    cases hc
theorem ne_empty_rds {w : World} {base g0 n sz s : Nat} {T : TypeId} {A : Option Addr} {xs : List Value} (h : w.ownsRow base T sz (.slice (some ⟨g0, 0, none⟩) 0 0) 0 []) (hr : Rds w s A n xs) (hn : 0 < n) (hs : 0 < s) : ∀ b off, A = some ⟨b, off, none⟩ → b ≠ g0 := by
  intro b off e
  obtain ⟨b', off', e', _, hc⟩ := hr.2 hn
  rw [e] at e'
  injection e' with e'
  injection e' with e1 e2 _
  subst e1 e2
  have hl := hr.1
  have : 0 < xs.length := by rw [hl]; exact Nat.mul_pos hn hs
  exact ne_empty h (hc 0 xs[0] (by simp [this]))
theorem lit_own (w : World) (e : TypeId) (sz : Nat) : (w.alloc (.cells #[] e)).ownsRow w.heap.size e sz (.slice (some ⟨w.heap.size, 0, none⟩) 0 0) 0 [] := World.ownsRow_lit (base := w.heap.size) (e := e) (size := sz) w #[] 0 (Nat.le_refl _) (Nat.zero_le _) (by simp)
end Go.Proofs.YtabgcpoaepafjaaGreat
namespace Go.Proofs.YtabgcpoaepafjaaGreat
open Go.RowKit
theorem MatB.setk {w : World} {B U hd n k i : Nat} {u : Value} {Th Te : TypeId} {f : Nat → Nat → Bool} (h : MatB w B U hd n Th Te f) (hk : U ≤ k) : MatB (w.setCell ⟨k, i, none⟩ u) B U hd n Th Te f := by
  obtain ⟨G, hs, h1, h0, h2, h3, h5, h6⟩ := h
  exact ⟨G, hs, h1, h0, h2.other (by omega) _, h3, fun j hj => ⟨(h5 j hj).1, (h5 j hj).2.1, (h5 j hj).2.2.1, (h5 j hj).2.2.2.1, (h5 j hj).2.2.2.2.other (by have := (h5 j hj).2.2.1; omega) _⟩, h6⟩
end Go.Proofs.YtabgcpoaepafjaaGreat
namespace Go.Proofs.YtabgcpoaepafjaaGreat
/-- Pane f can be set where those of l stand. -/
def canG (b : Nat → Nat → Bool) (o : Nat) (l : List Nat) (f : Nat) : Bool := decide (f ≠ o) && (!l.contains f && l.any fun i => b i f)
/-- The least pane below j that can be set. -/
def nextTo (b : Nat → Nat → Bool) (o : Nat) (l : List Nat) : Nat → Option Nat
  | 0 => none
  | j + 1 => match nextTo b o l j with
    | some f => some f
    | none => if canG b o l j = true then some j else none
theorem nextTo_some {b : Nat → Nat → Bool} {o : Nat} {l : List Nat} : ∀ {n f : Nat}, nextTo b o l n = some f → f < n ∧ canG b o l f = true ∧ nextTo b o l f = none
  | 0, _, h => by cases h
  | n + 1, f, h => by
    simp only [nextTo] at h
    cases h1 : nextTo b o l n with
    | some g =>
      rw [h1] at h
      injection h with h
      subst h
      obtain ⟨a1, a2, a3⟩ := nextTo_some h1
      exact ⟨by omega, a2, a3⟩
    | none =>
      rw [h1] at h
      simp only at h
      split at h
      · rename_i hc
        injection h with h
        subst h
        exact ⟨by omega, hc, h1⟩
      · cases h
/-- Pane after pane. -/
def growL (b : Nat → Nat → Bool) (n o : Nat) : Nat → List Nat → List Nat
  | 0, l => l
  | k + 1, l => match nextTo b o l n with
    | none => l
    | some f => growL b n o k (l ++ [f])
theorem growL_none {b : Nat → Nat → Bool} {n o : Nat} {l : List Nat} (h : nextTo b o l n = none) : ∀ k, growL b n o k l = l
  | 0 => rfl
  | k + 1 => by simp only [growL, h]
theorem growL_some {b : Nat → Nat → Bool} {n o : Nat} {l : List Nat} {f k : Nat} (h : nextTo b o l n = some f) : growL b n o (k + 1) l = growL b n o k (l ++ [f]) := by simp only [growL, h]
/-- The list on its way: R is what comes of it. -/
structure OnWay (b : Nat → Nat → Bool) (n o : Nat) (R l : List Nat) : Prop where
  nd : l.Nodup
  lt : ∀ x, x ∈ l → x < n
  go : growL b n o (n + 1 - l.length) l = R
theorem nodup_lt {n : Nat} {l : List Nat} (h : l.Nodup) (hl : ∀ x, x ∈ l → x < n) : l.length ≤ n := nodup_len n l h hl
theorem OnWay.start {b : Nat → Nat → Bool} {n o f : Nat} (hf : f < n) : OnWay b n o (growL b n o n [f]) [f] where
  nd := by simp
  lt x hx := by simp at hx; omega
  go := rfl
theorem OnWay.len {b : Nat → Nat → Bool} {n o : Nat} {R l : List Nat} (h : OnWay b n o R l) : l.length ≤ n := nodup_lt h.nd h.lt
theorem OnWay.next {b : Nat → Nat → Bool} {n o : Nat} {R l : List Nat} {f : Nat} (h : OnWay b n o R l) (hf : nextTo b o l n = some f) : OnWay b n o R (l ++ [f]) := by
  obtain ⟨h1, h2, _⟩ := nextTo_some hf
  have hnot : f ∉ l := fun q => by
    unfold canG at h2
    simp at h2
    exact h2.2.1 q
  have hlen := h.len
  refine ⟨?_, fun x hx => ?_, ?_⟩
  · rw [List.nodup_append]
    exact ⟨h.nd, by simp, fun a ha c hc => by simp at hc; subst hc; intro e; exact hnot (e ▸ ha)⟩
  · rcases List.mem_append.1 hx with hx | hx
    · exact h.lt x hx
    · simp at hx; omega
  · have hg := h.go
    rw [show n + 1 - l.length = (n - l.length) + 1 by omega, growL_some hf] at hg
    rw [← hg]
    congr 1
    simp
theorem OnWay.done {b : Nat → Nat → Bool} {n o : Nat} {R l : List Nat} (h : OnWay b n o R l) (hf : nextTo b o l n = none) : l = R := by
  rw [← h.go, growL_none hf]
end Go.Proofs.YtabgcpoaepafjaaGreat
namespace Go.Proofs.YtabgcpoaepafjaaGreat
open Go.RowKit
theorem in_face {f : Int} {n : Nat} (h : inR f 0 ((n : Int) - 1) = true) : ∃ k : Nat, f = (k : Nat) ∧ k < n := by
  have := inR_true h
  exact ⟨f.toNat, by omega, by omega⟩
end Go.Proofs.YtabgcpoaepafjaaGreat
