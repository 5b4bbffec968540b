/- Plain law on shapes: a shape moved and begun anew is one and the same; four quarter turns and two mirrors are none; areas stay (no program in sight). No condition. -/
import Derived.Test.YtabgcpoaepafjaaShp
import Derived.Test.YtabgcpoaepafjaaPlane
set_option linter.unusedSimpArgs false
set_option linter.unusedVariables false
namespace Go.Proofs.Ytabgcpoaepafjaa
open Shp

def gp (L : List P2) (i : Nat) : P2 := L.getD (i % L.length) (0, 0)
theorem gp_at {L : List P2} {i : Nat} (h : i < L.length) : gp L i = L[i] := by unfold gp; rw [Nat.mod_eq_of_lt h]; simp [h]
theorem gp_mod {L : List P2} {i j : Nat} (h : i % L.length = j % L.length) : gp L i = gp L j := by unfold gp; rw [h]
theorem gp_mem {L : List P2} (h : 0 < L.length) (i : Nat) : gp L i ∈ L := by
  have : i % L.length < L.length := Nat.mod_lt _ h
  unfold gp
  simp [this]
theorem gp_ext {L M : List P2} (hl : L.length = M.length) (h : ∀ i, i < L.length → gp L i = gp M i) : L = M := by
  apply List.ext_getElem hl
  intro i h1 h2
  have := h i h1
  rwa [gp_at h1, gp_at h2] at this
/-- The same shape, moved and begun elsewhere. -/
def Eqv (L M : List P2) : Prop := M.length = L.length ∧ ∃ (j : Nat) (u v : Int), ∀ i, gp M i = ((gp L (j + i)).1 + u, (gp L (j + i)).2 + v)
theorem Eqv.refl (L : List P2) : Eqv L L := ⟨rfl, 0, 0, 0, fun i => by simp⟩
theorem Eqv.trans {L M K : List P2} (h : Eqv L M) (k : Eqv M K) : Eqv L K := by
  obtain ⟨h1, j, u, v, h2⟩ := h
  obtain ⟨k1, j', u', v', k2⟩ := k
  refine ⟨k1.trans h1, j + j', u + u', v + v', fun i => ?_⟩
  rw [k2, h2, Nat.add_assoc]
  exact Prod.ext (by simp; omega) (by simp; omega)
theorem Eqv.symm {L M : List P2} (h : Eqv L M) : Eqv M L := by
  obtain ⟨h1, j, u, v, h2⟩ := h
  refine ⟨h1.symm, L.length - j % L.length, -u, -v, fun i => ?_⟩
  rw [h2]
  have e : gp L (j + (L.length - j % L.length + i)) = gp L i := by
    rcases Nat.eq_zero_or_pos L.length with h0 | h0
    · have : L = [] := List.length_eq_zero_iff.1 h0
      subst this
      rfl
    · apply gp_mod
      have h3 := Nat.mod_lt j h0
      have h4 := Nat.div_add_mod j L.length
      have h5 : j + (L.length - j % L.length + i) = i + L.length * (j / L.length + 1) := by rw [Nat.mul_add, Nat.mul_one]; omega
      rw [h5, Nat.add_mul_mod_self_left]
  rw [e]
  exact Prod.ext (by simp; omega) (by simp; omega)
theorem gp_turned (L : List P2) (i : Nat) : gp (turned L) i = (-(gp L i).2, (gp L i).1) := by
  unfold gp turned
  rw [List.length_map]
  rcases Nat.lt_or_ge (i % L.length) L.length with h | h
  · simp [h]
  · simp [List.getElem?_eq_none h]
theorem eqv_turned {L M : List P2} (h : Eqv L M) : Eqv (turned L) (turned M) := by
  obtain ⟨h1, j, u, v, h2⟩ := h
  refine ⟨by rw [turned_length, turned_length, h1], j, -v, u, fun i => ?_⟩
  rw [gp_turned, gp_turned, h2]
  exact Prod.ext (by simp; omega) (by simp)
theorem gp_mirrored {L : List P2} (h : 0 < L.length) (i : Nat) : gp (mirrored L) i = (-(gp L (L.length - 1 - i % L.length)).1, (gp L (L.length - 1 - i % L.length)).2) := by
  have hi := Nat.mod_lt i h
  have hk : L.length - 1 - i % L.length < L.length := by omega
  rw [gp_at hk]
  unfold gp mirrored
  rw [List.length_reverse, List.length_map]
  simp [List.getD, List.getElem?_reverse, hi, hk]
theorem rev_mod {n i j : Nat} (h : 0 < n) : (j + (n - 1 - i % n)) % n = (n - 1 - (n - j % n + i) % n) % n := by
  have ha := Nat.mod_lt i h
  have hb := Nat.mod_lt j h
  have e1 : (j + (n - 1 - i % n)) % n = (j % n + (n - 1 - i % n)) % n := (Nat.mod_add_mod j n _).symm
  have e2 : (n - j % n + i) % n = (n - j % n + i % n) % n := (Nat.add_mod_mod _ _ _).symm
  rw [e1, e2]
  generalize i % n = a at *
  generalize j % n = b at *
  rcases Nat.lt_or_ge a b with q | q
  · rw [Nat.mod_eq_of_lt (show n - b + a < n by omega), Nat.mod_eq_of_lt (show n - 1 - (n - b + a) < n by omega), Nat.mod_eq_sub_mod (by omega), Nat.mod_eq_of_lt (by omega)]
    omega
  · rw [Nat.mod_eq_sub_mod (show n - b + a ≥ n by omega), Nat.mod_eq_of_lt (show n - b + a - n < n by omega), Nat.mod_eq_of_lt (show n - 1 - (n - b + a - n) < n by omega), Nat.mod_eq_of_lt (by omega)]
    omega
theorem eqv_mirrored {L M : List P2} (h : Eqv L M) (h0 : 0 < L.length) : Eqv (mirrored L) (mirrored M) := by
  obtain ⟨h1, j, u, v, h2⟩ := h
  refine ⟨by rw [mirrored_length, mirrored_length, h1], L.length - j % L.length, -u, v, fun i => ?_⟩
  rw [gp_mirrored (by omega), gp_mirrored h0, h2, h1, gp_mod (rev_mod h0)]
  exact Prod.ext (by simp; omega) (by simp)
theorem turned_mirrored_turned (L : List P2) : turned (mirrored (turned L)) = mirrored L := by
  unfold turned mirrored
  simp [List.map_reverse, Function.comp_def]
theorem mirrored_mirrored (L : List P2) : mirrored (mirrored L) = L := by
  unfold mirrored
  simp [List.map_reverse, Function.comp_def]
theorem turned_four (L : List P2) : turned (turned (turned (turned L))) = L := by
  unfold turned
  simp [Function.comp_def]

/-! the least numbers and the lowest node -/
def lexle (p q : P2) : Prop := p.2 < q.2 ∨ (p.2 = q.2 ∧ p.1 ≤ q.1)
theorem lexle_antisymm {p q : P2} (h : lexle p q) (k : lexle q p) : p = q := by
  unfold lexle at h k
  exact Prod.ext (by omega) (by omega)
theorem gd {L : List P2} {i : Nat} (h : i < L.length) : L.getD i (0, 0) = L[i] := by simp [h]
theorem fsT_low {L : List P2} (h0 : 0 < L.length) : ∀ k, k ≤ L.length → ∀ i, i < k → lexle (L.getD (fsT L k) (0, 0)) (L.getD i (0, 0))
  | 0, _, i, h => absurd h (by omega)
  | k + 1, hk, i, hik => by
    have hf := fsT_lt h0 k (by omega)
    have ih := fsT_low h0 k (by omega)
    have e := fsT_step (l := L) (k := k) (by omega) hf
    have hk' : k < L.length := by omega
    rw [← gd hf, ← gd hk'] at e
    by_cases hc : (L.getD k (0, 0)).2 < (L.getD (fsT L k) (0, 0)).2 ∨ ((L.getD k (0, 0)).2 = (L.getD (fsT L k) (0, 0)).2 ∧ (L.getD k (0, 0)).1 < (L.getD (fsT L k) (0, 0)).1)
    · rw [if_pos hc] at e
      rw [e]
      rcases Nat.lt_or_eq_of_le (Nat.le_of_lt_succ hik) with q | q
      · have := ih i q
        unfold lexle at *
        omega
      · subst q
        unfold lexle
        omega
    · rw [if_neg hc] at e
      rw [e]
      rcases Nat.lt_or_eq_of_le (Nat.le_of_lt_succ hik) with q | q
      · exact ih i q
      · subst q
        unfold lexle
        omega
theorem low {L : List P2} (h0 : 0 < L.length) (i : Nat) : lexle (gp L (fsT L L.length)) (gp L i) := by
  have hi := Nat.mod_lt i h0
  have := fsT_low h0 L.length (Nat.le_refl _) (i % L.length) hi
  unfold gp
  rw [Nat.mod_eq_of_lt (fsT_lt h0 _ (Nat.le_refl _))]
  exact this
theorem mn_le {f : P2 → Int} {L : List P2} (h0 : 0 < L.length) : ∀ k, k ≤ L.length → ∀ (i : Nat) (hi : i < L.length), i < k → mnF f L k ≤ f L[i]
  | 0, _, i, _, h => absurd h (by omega)
  | k + 1, hk, i, hi, hik => by
    have ih := mn_le (f := f) h0 k (by omega)
    rw [mnF_step f (by omega)]
    rcases Nat.lt_or_eq_of_le (Nat.le_of_lt_succ hik) with q | q
    · have := ih i hi q
      split <;> omega
    · subst q
      split <;> omega
theorem mn_at {f : P2 → Int} {L : List P2} (h0 : 0 < L.length) : ∀ k, k ≤ L.length → ∃ i, ∃ hi : i < L.length, mnF f L k = f L[i]
  | 0, _ => ⟨0, h0, mnF_zero f h0⟩
  | k + 1, hk => by
    obtain ⟨i, hi, e⟩ := mn_at (f := f) h0 k (by omega)
    rw [mnF_step f (by omega)]
    split
    · exact ⟨k, by omega, rfl⟩
    · exact ⟨i, hi, e⟩
def mnA (f : P2 → Int) (L : List P2) : Int := mnF f L L.length
theorem mnA_le (f : P2 → Int) {L : List P2} (h0 : 0 < L.length) (i : Nat) : mnA f L ≤ f (gp L i) := by
  have hi := Nat.mod_lt i h0
  rw [gp_mod (L := L) (i := i) (j := i % L.length) (by rw [Nat.mod_mod]), gp_at hi]
  exact mn_le h0 _ (Nat.le_refl _) _ hi hi
theorem mnA_at (f : P2 → Int) {L : List P2} (h0 : 0 < L.length) : ∃ i, mnA f L = f (gp L i) := by
  obtain ⟨i, hi, e⟩ := mn_at (f := f) h0 _ (Nat.le_refl _)
  exact ⟨i, by rw [gp_at hi]; exact e⟩
theorem gp_fit {L : List P2} (h0 : 0 < L.length) (i : Nat) : gp (fit L) i = ((gp L (fsT L L.length + i)).1 - mnA (·.1) L, (gp L (fsT L L.length + i)).2 - mnA (·.2) L) := by
  have hi := Nat.mod_lt i h0
  have e : gp (fit L) i = fitAt L (i % L.length) := by
    unfold gp
    rw [fit_length]
    unfold fit
    simp [hi]
  rw [e]
  unfold fitAt mnA gp
  rw [Nat.add_mod_mod]
theorem Eqv.fit {L : List P2} (h0 : 0 < L.length) : Eqv L (fit L) := ⟨fit_length L, fsT L L.length, -mnA (·.1) L, -mnA (·.2) L, fun i => by rw [gp_fit h0]; exact Prod.ext (by simp; omega) (by simp; omega)⟩
/-- No node twice. -/
def Nd (L : List P2) : Prop := ∀ i j, gp L i = gp L j → i % L.length = j % L.length
theorem mod_cancel {n a i j : Nat} (h : (a + i) % n = (a + j) % n) : i % n = j % n := by
  rcases Nat.eq_zero_or_pos n with h0 | h0
  · subst h0
    simp at h
    omega
  · have hr := Nat.mod_lt a h0
    have h1 : ((a + i) + (n - a % n)) % n = ((a + j) + (n - a % n)) % n := by rw [Nat.add_mod, h, ← Nat.add_mod]
    have h4 := Nat.div_add_mod a n
    have e : ∀ x, (a + x) + (n - a % n) = x + n * (a / n + 1) := fun x => by rw [Nat.mul_add, Nat.mul_one]; omega
    rw [e, e, Nat.add_mul_mod_self_left, Nat.add_mul_mod_self_left] at h1
    exact h1
theorem Nd.eqv {L M : List P2} (h : Nd L) (k : Eqv L M) : Nd M := by
  obtain ⟨k1, j, u, v, k2⟩ := k
  intro a b e
  rw [k2, k2] at e
  injection e with e1 e2
  have := h (j + a) (j + b) (Prod.ext (by omega) (by omega))
  rw [k1]
  exact mod_cancel this
theorem nd_turned {L : List P2} (h : Nd L) : Nd (turned L) := by
  intro a b e
  rw [gp_turned, gp_turned] at e
  injection e with e1 e2
  rw [turned_length]
  exact h a b (Prod.ext e2 (by omega))
theorem nd_mirrored {L : List P2} (h : Nd L) (h0 : 0 < L.length) : Nd (mirrored L) := by
  intro a b e
  rw [gp_mirrored h0, gp_mirrored h0] at e
  injection e with e1 e2
  rw [mirrored_length]
  have := h _ _ (Prod.ext (show (gp L (L.length - 1 - a % L.length)).1 = (gp L (L.length - 1 - b % L.length)).1 by omega) e2)
  have ha := Nat.mod_lt a h0
  have hb := Nat.mod_lt b h0
  rw [Nat.mod_eq_of_lt (show L.length - 1 - a % L.length < L.length by omega), Nat.mod_eq_of_lt (show L.length - 1 - b % L.length < L.length by omega)] at this
  omega
theorem Nd.of_nodup {L : List P2} (h : L.Nodup) (h0 : 0 < L.length) : Nd L := by
  intro i j e
  have hi := Nat.mod_lt i h0
  have hj := Nat.mod_lt j h0
  rw [gp_mod (L := L) (i := i) (j := i % L.length) (by rw [Nat.mod_mod]), gp_mod (L := L) (i := j) (j := j % L.length) (by rw [Nat.mod_mod]), gp_at hi, gp_at hj] at e
  have h2 := List.pairwise_iff_getElem.1 h
  rcases Nat.lt_trichotomy (i % L.length) (j % L.length) with q | q | q
  · exact absurd e (h2 _ _ hi hj q)
  · exact q
  · exact absurd e.symm (h2 _ _ hj hi q)
theorem reach {L : List P2} (j i : Nat) : gp L (j + (L.length - j % L.length + i)) = gp L i := by
  rcases Nat.eq_zero_or_pos L.length with h0 | h0
  · have : L = [] := List.length_eq_zero_iff.1 h0
    subst this
    rfl
  · apply gp_mod
    have h3 := Nat.mod_lt j h0
    have h4 := Nat.div_add_mod j L.length
    have h5 : j + (L.length - j % L.length + i) = i + L.length * (j / L.length + 1) := by rw [Nat.mul_add, Nat.mul_one]; omega
    rw [h5, Nat.add_mul_mod_self_left]
/-- A shape that is its own copy has not moved. -/
theorem still {L : List P2} (h0 : 0 < L.length) {f : P2 → Int} {J : Nat} {t : Int} (h : ∀ i, f (gp L i) = f (gp L (J + i)) + t) : t = 0 := by
  obtain ⟨i1, p1⟩ := mnA_at f h0
  have a1 := mnA_le f h0 (J + i1)
  have a2 := h i1
  have b1 := mnA_le f h0 (L.length - J % L.length + i1)
  have b2 := h (L.length - J % L.length + i1)
  rw [reach] at b2
  omega
theorem fit_unique {L M : List P2} (h0 : 0 < L.length) (hn : Nd L) (h : Eqv L M) : fit L = fit M := by
  have hs := h.symm
  obtain ⟨h1, j, u, v, h2⟩ := h
  obtain ⟨_, j', u', v', h3⟩ := hs
  have hM : 0 < M.length := by omega
  -- the lowest nodes answer to one another
  have hj : (j + fsT M M.length) % L.length = fsT L L.length % L.length := by
    apply hn
    apply lexle_antisymm
    · have q := low hM (j' + fsT L L.length)
      have e := h3 (fsT L L.length)
      have e2 := h2 (fsT M M.length)
      have e3 := h2 (j' + fsT L L.length)
      rw [e2, e3] at q
      have e6 : gp L (fsT L L.length) = ((gp L (j + (j' + fsT L L.length))).1 + u + u', (gp L (j + (j' + fsT L L.length))).2 + v + v') := by rw [e, e3]
      have hb : ∀ i, gp L i = ((gp L (j + (j' + i))).1 + u + u', (gp L (j + (j' + i))).2 + v + v') := fun i => by rw [h3, h2]
      have hu : u + u' = 0 := still (f := (·.1)) (J := j + j') h0 fun i => by
        have := congrArg Prod.fst (hb i)
        rw [Nat.add_assoc]
        simpa [Int.add_assoc] using this
      have hv : v + v' = 0 := still (f := (·.2)) (J := j + j') h0 fun i => by
        have := congrArg Prod.snd (hb i)
        rw [Nat.add_assoc]
        simpa [Int.add_assoc] using this
      rw [e6]
      unfold lexle at q ⊢
      simp only at q ⊢
      omega
    · exact low h0 _
  have mn : ∀ (f : P2 → Int) (t : Int), (∀ i, f (gp M i) = f (gp L (j + i)) + t) → (∀ i, ∃ k, gp L i = gp L (j + k)) → mnA f M = mnA f L + t := by
    intro f t hf hk
    obtain ⟨i1, p1⟩ := mnA_at f h0
    obtain ⟨i2, p2⟩ := mnA_at f hM
    have a1 := mnA_le f h0 (j + i2)
    have a2 := hf i2
    obtain ⟨k, e⟩ := hk i1
    have a3 := mnA_le f hM k
    rw [hf, ← e] at a3
    omega
  have hk : ∀ i, ∃ k, gp L i = gp L (j + k) := fun i => ⟨_, (reach j i).symm⟩
  have m1 := mn (·.1) u (fun i => by rw [h2]) hk
  have m2 := mn (·.2) v (fun i => by rw [h2]) hk
  refine gp_ext (by rw [fit_length, fit_length, h1]) fun i _ => ?_
  rw [gp_fit h0, gp_fit hM, h2, m1, m2]
  have e : gp L (j + (fsT M M.length + i)) = gp L (fsT L L.length + i) := by
    apply gp_mod
    rw [← Nat.add_assoc, Nat.add_mod, hj, ← Nat.add_mod]
  rw [e]
  exact Prod.ext (by simp; omega) (by simp; omega)
/-! shapes -/
/-- No two nodes further apart than 20. -/
def E20 (L : List P2) : Prop := ∀ i k, (gp L i).1 - (gp L k).1 ≤ 20 ∧ (gp L i).2 - (gp L k).2 ≤ 20
theorem e20_turned {L : List P2} (h : E20 L) : E20 (turned L) := fun i k => by
  have := h i k
  have := h k i
  rw [gp_turned, gp_turned]
  simp only
  omega
theorem e20_mirrored {L : List P2} (h : E20 L) (h0 : 0 < L.length) : E20 (mirrored L) := fun i k => by
  have := h (L.length - 1 - i % L.length) (L.length - 1 - k % L.length)
  have := h (L.length - 1 - k % L.length) (L.length - 1 - i % L.length)
  rw [gp_mirrored h0, gp_mirrored h0]
  simp only
  omega
theorem fit_ok {L : List P2} (h : E20 L) (h0 : 0 < L.length) : nodesOkB (fit L) = true := by
  refine List.all_eq_true.2 fun p hp => ?_
  obtain ⟨i, hi, rfl⟩ := List.getElem_of_mem hp
  rw [fit_length] at hi
  have e := gp_fit h0 i
  rw [gp_at (by rw [fit_length]; exact hi)] at e
  rw [e]
  obtain ⟨a, ea⟩ := mnA_at (·.1) h0
  obtain ⟨b, eb⟩ := mnA_at (·.2) h0
  have q1 := mnA_le (·.1) h0 (fsT L L.length + i)
  have q2 := mnA_le (·.2) h0 (fsT L L.length + i)
  have h1 := (h (fsT L L.length + i) a).1
  have h2 := (h (fsT L L.length + i) b).2
  (try simp only at ea eb q1 q2 h1 h2)
  unfold Shp.nodeOk inR
  simp only [Bool.and_eq_true, decide_eq_true_eq]
  omega
theorem E20.of_ok {L : List P2} (h : nodesOkB L = true) (h0 : 0 < L.length) : E20 L := fun i k => by
  have hi := Nat.mod_lt i h0
  have hk := Nat.mod_lt k h0
  have a := nodesOkB_at h hi
  have b := nodesOkB_at h hk
  rw [gp_mod (L := L) (i := i) (j := i % L.length) (by rw [Nat.mod_mod]), gp_mod (L := L) (i := k) (j := k % L.length) (by rw [Nat.mod_mod]), gp_at hi, gp_at hk]
  omega
structure NS (S : List P2) : Prop where
  pos : 0 < S.length
  nd : Nd S
  ok : nodesOkB S = true
  fix : fit S = S
theorem NS.of_fit {L : List P2} (h0 : 0 < L.length) (hn : Nd L) (he : E20 L) : NS (fit L) :=
  ⟨by rw [fit_length]; exact h0, hn.eqv (.fit h0), fit_ok he h0, (fit_unique h0 hn (.fit h0)).symm⟩
theorem turnV_of {S : List P2} (h : NS S) : turnV S = fit (turned S) := by
  unfold turnV
  rw [if_pos (by rw [h.ok]; simp [h.pos])]
theorem mirrorV_of {S : List P2} (h : NS S) : mirrorV S = fit (mirrored S) := by
  unfold mirrorV
  rw [if_pos (by rw [h.ok]; simp [h.pos])]
theorem NS.turn {S : List P2} (h : NS S) : NS (turnV S) := by
  rw [turnV_of h]
  exact .of_fit (by rw [turned_length]; exact h.pos) (nd_turned h.nd) (e20_turned (E20.of_ok h.ok h.pos))
theorem NS.mirror {S : List P2} (h : NS S) : NS (mirrorV S) := by
  rw [mirrorV_of h]
  exact .of_fit (by rw [mirrored_length]; exact h.pos) (nd_mirrored h.nd h.pos) (e20_mirrored (E20.of_ok h.ok h.pos) h.pos)
theorem turn_eqv {S : List P2} (h : NS S) : Eqv (turned S) (turnV S) := by rw [turnV_of h]; exact .fit (by rw [turned_length]; exact h.pos)
theorem mirror_eqv {S : List P2} (h : NS S) : Eqv (mirrored S) (mirrorV S) := by rw [mirrorV_of h]; exact .fit (by rw [mirrored_length]; exact h.pos)
/-- Two normal shapes that are moved copies are the same. -/
theorem NS.eq {S T : List P2} (h : NS S) (k : NS T) (e : Eqv S T) : S = T := by rw [← h.fix, ← k.fix]; exact fit_unique h.pos h.nd e
theorem turn_four {S : List P2} (h : NS S) : turnV (turnV (turnV (turnV S))) = S := by
  have e1 := turn_eqv h
  have e2 := (eqv_turned e1).trans (turn_eqv h.turn)
  have e3 := (eqv_turned e2).trans (turn_eqv h.turn.turn)
  have e4 := (eqv_turned e3).trans (turn_eqv h.turn.turn.turn)
  rw [turned_four] at e4
  exact (h.eq h.turn.turn.turn.turn e4).symm
theorem mirror_two {S : List P2} (h : NS S) : mirrorV (mirrorV S) = S := by
  have e1 := mirror_eqv h
  have e2 := (eqv_mirrored e1 (by rw [mirrored_length]; exact h.pos)).trans (mirror_eqv h.mirror)
  rw [mirrored_mirrored] at e2
  exact (h.eq h.mirror.mirror e2).symm
theorem turn_mirror_turn {S : List P2} (h : NS S) : turnV (mirrorV (turnV S)) = mirrorV S := by
  have e1 := turn_eqv h
  have e2 := (eqv_mirrored e1 (by rw [turned_length]; exact h.pos)).trans (mirror_eqv h.turn)
  have e3 := (eqv_turned e2).trans (turn_eqv h.turn.mirror)
  rw [turned_mirrored_turned] at e3
  exact (h.mirror.eq h.turn.mirror.turn ((mirror_eqv h).symm.trans e3)).symm
theorem same_self {S : List P2} (h : 0 < S.length) : sameB S S = true := by simp [sameB, h]
theorem alike_self {S : List P2} (h : NS S) : alikeB S S = true := alike_yes (k := 3) (by omega) (by
  have e : Shp.turnN S 4 = S := turn_four h
  rw [show 3 + 1 = 4 from rfl, e]
  exact same_self h.pos)
theorem alike_turn {S : List P2} (h : NS S) : alikeB S (turnV S) = true := alike_yes (k := 2) (by omega) (by
  have e : Shp.turnN (turnV S) 3 = S := turn_four h
  rw [show 2 + 1 = 3 from rfl, e]
  exact same_self h.pos)
theorem alike_back {S : List P2} (h : NS S) : alikeB (turnV S) S = true := alike_yes (k := 0) (by omega) (by
  have e : Shp.turnN S 1 = turnV S := rfl
  rw [show 0 + 1 = 1 from rfl, e]
  exact same_self h.turn.pos)
theorem mirrored_yes {S : List P2} (h : NS S) : mirroredB S (mirrorV S) = true ∧ mirroredB (mirrorV S) S = true := by
  unfold mirroredB
  rw [mirror_two h]
  exact ⟨alike_self h, alike_self h.mirror⟩
/-! areas -/
def crossP (p q : P2) : Int := p.1 * q.2 - p.2 * q.1
def arS (S : List P2) : Int := sumI (fun k => crossP (gp S k) (gp S (k + 1))) S.length
theorem sum_shift {F : Nat → Int} : ∀ n, sumI (fun k => F (k + 1)) n = sumI F n + F n - F 0
  | 0 => by simp [sumI]
  | n + 1 => by
    have := sum_shift (F := F) n
    simp only [sumI] at this ⊢
    omega
theorem sum_rot {F : Nat → Int} {n : Nat} (hp : ∀ i, F (i + n) = F i) : ∀ j, sumI (fun k => F (j + k)) n = sumI F n
  | 0 => by simp
  | j + 1 => by
    have h := sum_shift (F := fun k => F (j + k)) n
    have e := sum_rot hp j
    have e2 : (fun k => F (j + 1 + k)) = fun k => F (j + (k + 1)) := by funext k; congr 1; omega
    rw [e2]
    have e3 : F (j + n) = F j := hp j
    have h2 : sumI (fun k => F (j + (k + 1))) n = sumI (fun k => F (j + k)) n + F (j + n) - F (j + 0) := h
    rw [h2, e, e3, Nat.add_zero]
    omega
theorem ar_eqv {L M : List P2} (h : Eqv L M) : arS M = arS L := by
  obtain ⟨h1, j, u, v, h2⟩ := h
  unfold arS
  rw [h1]
  have hp : ∀ i, gp L (i + L.length) = gp L i := fun i => gp_mod (Nat.add_mod_right _ _)
  have e : sumI (fun k => crossP (gp M k) (gp M (k + 1))) L.length = sumI (fun k => crossP (gp L (j + k)) (gp L (j + k + 1)) + ((u * (gp L (j + (k + 1))).2 - v * (gp L (j + (k + 1))).1) - (u * (gp L (j + k)).2 - v * (gp L (j + k)).1))) L.length := by
    apply sumI_congr
    intro k _
    rw [h2, h2]
    unfold crossP
    simp only [Nat.add_assoc]
    grind
  rw [e, sumI_add]
  have t : sumI (fun k => (u * (gp L (j + (k + 1))).2 - v * (gp L (j + (k + 1))).1) - (u * (gp L (j + k)).2 - v * (gp L (j + k)).1)) L.length = 0 := by
    have a := sum_shift (F := fun k => u * (gp L (j + k)).2 - v * (gp L (j + k)).1) L.length
    have b : sumI (fun k => (u * (gp L (j + (k + 1))).2 - v * (gp L (j + (k + 1))).1) - (u * (gp L (j + k)).2 - v * (gp L (j + k)).1)) L.length = sumI (fun k => u * (gp L (j + (k + 1))).2 - v * (gp L (j + (k + 1))).1) L.length + - sumI (fun k => u * (gp L (j + k)).2 - v * (gp L (j + k)).1) L.length := by
      rw [← sumI_neg, ← sumI_add]
      rfl
    rw [b]
    have a2 : sumI (fun k => u * (gp L (j + (k + 1))).2 - v * (gp L (j + (k + 1))).1) L.length = sumI (fun k => u * (gp L (j + k)).2 - v * (gp L (j + k)).1) L.length + (u * (gp L (j + L.length)).2 - v * (gp L (j + L.length)).1) - (u * (gp L (j + 0)).2 - v * (gp L (j + 0)).1) := a
    rw [a2, hp, Nat.add_zero]
    omega
  rw [t, Int.add_zero]
  exact sum_rot (F := fun k => crossP (gp L k) (gp L (k + 1))) (fun i => by show crossP (gp L (i + L.length)) (gp L (i + L.length + 1)) = _; rw [hp, show i + L.length + 1 = i + 1 + L.length by omega, hp]) j
theorem ar_turned (L : List P2) : arS (turned L) = arS L := by
  unfold arS
  rw [turned_length]
  apply sumI_congr
  intro k _
  rw [gp_turned, gp_turned]
  unfold crossP
  simp only
  grind
theorem ar_turn {S : List P2} (h : NS S) : arS (turnV S) = arS S := (ar_eqv (turn_eqv h)).trans (ar_turned S)
end Go.Proofs.Ytabgcpoaepafjaa
