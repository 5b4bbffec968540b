/- Words and walks for the law FnTrees, a part of them. No condition but that the arguments lie in memory. -/
import Derived.Test.YtabgcpoaepafjaaU1
set_option linter.unusedVariables false
set_option linter.unusedSimpArgs false
namespace Go.Proofs.Ytabgcpoaepafjaa
/-- The sum of h from k on, c numbers. -/
def rs (h : Nat → Int) : Nat → Nat → Int
  | _, 0 => 0
  | k, c + 1 => h k + rs h (k + 1) c
theorem rs_congr {h g : Nat → Int} : ∀ (c k : Nat), (∀ j, k ≤ j → j < k + c → h j = g j) → rs h k c = rs g k c
  | 0, _, _ => rfl
  | c + 1, k, e => by
    simp only [rs]
    rw [e k (Nat.le_refl _) (by omega), rs_congr c (k + 1) fun j h1 h2 => e j (by omega) (by omega)]
theorem rs_nonpos {h : Nat → Int} : ∀ (c k : Nat), (∀ j, k ≤ j → j < k + c → h j ≤ 0) → rs h k c ≤ 0
  | 0, _, _ => Int.le_refl _
  | c + 1, k, e => by
    have := rs_nonpos c (k + 1) fun j h1 h2 => e j (by omega) (by omega)
    have := e k (Nat.le_refl _) (by omega)
    simp only [rs]
    omega
/-- One number apart from the others. -/
theorem rs_split {h : Nat → Int} : ∀ (c k i : Nat), k ≤ i → i < k + c → rs h k c = h i + rs (fun j => if j = i then 0 else h j) k c
  | 0, _, _, h1, h2 => absurd h1 (by omega)
  | c + 1, k, i, h1, h2 => by
    simp only [rs]
    by_cases e : k = i
    · subst e
      rw [if_pos rfl, rs_congr (g := fun j => if j = k then 0 else h j) c (k + 1) (fun j h3 _ => by rw [if_neg (by omega)])]
      omega
    · rw [if_neg e, rs_split c (k + 1) i (by omega) (by omega)]
      omega
theorem rs_lin (p q : Int) (h g : Nat → Int) : ∀ (c k : Nat), rs (fun j => h j * p - q * g j) k c = rs h k c * p - q * rs g k c
  | 0, _ => by simp [rs]
  | c + 1, k => by
    simp only [rs]
    rw [rs_lin p q h g c (k + 1), Int.add_mul, Int.mul_add]
    omega
theorem tdiv_np {a b : Int} (ha : a ≤ 0) (hb : 0 < b) : a.tdiv b ≤ 0 ∧ a ≤ a.tdiv b * b := by
  obtain ⟨c, rfl⟩ : ∃ c, a = -c := ⟨-a, by omega⟩
  have hc : 0 ≤ c := by omega
  rw [Int.neg_tdiv, Int.tdiv_eq_ediv_of_nonneg hc]
  have h1 := Int.ediv_nonneg hc (Int.le_of_lt hb)
  have h2 := Int.ediv_mul_le c (Int.ne_of_gt hb)
  rw [Int.neg_mul]
  omega
theorem tdiv_nn {a b : Int} (ha : 0 ≤ a) (hb : 0 < b) : 0 ≤ a.tdiv b ∧ a.tdiv b * b ≤ a ∧ ∀ t : Int, t * b ≤ a → t ≤ a.tdiv b := by
  rw [Int.tdiv_eq_ediv_of_nonneg ha]
  exact ⟨Int.ediv_nonneg ha (Int.le_of_lt hb), Int.ediv_mul_le a (Int.ne_of_gt hb), fun t ht => (Int.le_ediv_iff_mul_le hb).2 ht⟩
/-- Whole parts of numbers of which at most one is above 0, and which sum to 0 or more, sum to 0 or more. -/
theorem rs_tdiv {h : Nat → Int} {b : Int} (hb : 0 < b) (c k i : Nat) (h1 : k ≤ i) (h2 : i < k + c) (hn : ∀ j, k ≤ j → j < k + c → j ≠ i → h j ≤ 0) (hs : 0 ≤ rs h k c) : 0 ≤ rs (fun j => (h j).tdiv b) k c := by
  rw [rs_split c k i h1 h2] at hs ⊢
  have hle : ∀ (c k : Nat), (∀ j, k ≤ j → j < k + c → j ≠ i → h j ≤ 0) → rs (fun j => if j = i then 0 else h j) k c ≤ rs (fun j => if j = i then 0 else (h j).tdiv b) k c * b ∧ rs (fun j => if j = i then 0 else (h j).tdiv b) k c ≤ 0 := by
    intro c
    induction c with
    | zero => intro k _; simp [rs]
    | succ c ih =>
      intro k hk
      obtain ⟨a1, a2⟩ := ih (k + 1) fun j h1 h2 => hk j (by omega) (by omega)
      simp only [rs]
      by_cases e : k = i
      · rw [if_pos e, if_pos e, Int.add_mul]
        omega
      · rw [if_neg e, if_neg e, Int.add_mul]
        have := tdiv_np (hk k (Nat.le_refl _) (by omega) e) hb
        omega
  obtain ⟨a1, a2⟩ := hle c k hn
  have hi : 0 ≤ h i := by
    have := rs_nonpos (h := fun j => if j = i then 0 else h j) c k fun j h3 h4 => by
      by_cases e : j = i
      · rw [if_pos e]; omega
      · rw [if_neg e]; exact hn j h3 h4 e
    omega
  have h3 := (tdiv_nn hi hb).2.2 (-(rs (fun j => if j = i then 0 else (h j).tdiv b) k c)) (by rw [Int.neg_mul]; omega)
  omega
/-- What one step at place k leaves of a table. -/
def elimD (n k : Nat) (last : Int) (g : Nat → Nat → Int) : Nat → Nat → Int := fun i j =>
  if k < i ∧ i < n ∧ k < j ∧ j < n then (g i j * g k k - g i k * g k j).tdiv last else g i j
/-- The table and the last pivot ahead of step k. -/
def stD (n : Nat) (f : Nat → Nat → Int) : Nat → (Nat → Nat → Int) × Int
  | 0 => (f, 1)
  | k + 1 => (elimD n k (stD n f k).2 (stD n f k).1, (stD n f k).1 k k)
/-- The determinant: 0 where a pivot is 0. -/
def detTo (n : Nat) (f : Nat → Nat → Int) : Nat → Int
  | 0 => 1
  | k + 1 => if detTo n f k = 0 then 0 else (stD n f k).1 k k
def detD (n : Nat) (f : Nat → Nat → Int) : Int := detTo n f n
theorem detTo_zero {n : Nat} {f : Nat → Nat → Int} {k : Nat} (h : detTo n f k = 0) : ∀ m, k ≤ m → detTo n f m = 0 := by
  intro m hm
  induction m with
  | zero =>
    have : k = 0 := by omega
    subst this
    exact h
  | succ m ih =>
    by_cases e : k = m + 1
    · rw [← e]; exact h
    · simp only [detTo]
      rw [if_pos (ih (by omega))]
theorem detTo_last {n : Nat} {f : Nat → Nat → Int} {k : Nat} (h : detTo n f k ≠ 0) : (stD n f k).2 = detTo n f k := by
  cases k with
  | zero => rfl
  | succ k =>
    simp only [detTo] at h ⊢
    split at h
    · exact absurd rfl h
    · rename_i h1
      rw [if_neg h1]
      rfl
/-- From place k on: symmetric, nothing above 0 off the diagonal, no row sums to less than 0. -/
structure Dom (n k : Nat) (g : Nat → Nat → Int) : Prop where
  sym : ∀ i j, k ≤ i → i < n → k ≤ j → j < n → g i j = g j i
  off : ∀ i j, k ≤ i → i < n → k ≤ j → j < n → i ≠ j → g i j ≤ 0
  row : ∀ i, k ≤ i → i < n → 0 ≤ rs (g i) k (n - k)
theorem Dom.diag {n k : Nat} {g : Nat → Nat → Int} (h : Dom n k g) {i : Nat} (h1 : k ≤ i) (h2 : i < n) : 0 ≤ g i i ∧ ∀ j, k ≤ j → j < n → j ≠ i → -(g i i) ≤ g i j := by
  have hr := h.row i h1 h2
  rw [rs_split (n - k) k i h1 (by omega)] at hr
  have hz : ∀ j, k ≤ j → j < k + (n - k) → (if j = i then 0 else g i j) ≤ 0 := fun j h3 h4 => by
    by_cases e : j = i
    · rw [if_pos e]; omega
    · rw [if_neg e]; exact h.off i j h1 h2 h3 (by omega) (fun q => e q.symm)
  refine ⟨by have := rs_nonpos _ _ hz; omega, fun j h3 h4 h5 => ?_⟩
  rw [rs_split (n - k) k j h3 (by omega)] at hr
  rw [if_neg h5] at hr
  have := rs_nonpos (h := fun m => if m = j then 0 else if m = i then 0 else g i m) (n - k) k fun m h6 h7 => by
    by_cases e : m = j
    · rw [if_pos e]; omega
    · rw [if_neg e]; exact hz m h6 h7
  omega
/-- Where the pivot is 0 its whole column is. -/
theorem Dom.zero {n k : Nat} {g : Nat → Nat → Int} (h : Dom n k g) (hk : k < n) (h0 : g k k = 0) : ∀ i, k ≤ i → i < n → g i k = 0 := by
  intro i h1 h2
  by_cases e : i = k
  · rw [e, h0]
  · rw [h.sym i k h1 h2 (Nat.le_refl _) hk]
    have a := (h.diag (Nat.le_refl _) hk).2 i h1 h2 e
    have b := h.off k i (Nat.le_refl _) hk h1 h2 (fun q => e q.symm)
    omega
theorem rs_head (h : Nat → Int) {k n : Nat} (hk : k < n) : rs h k (n - k) = h k + rs h (k + 1) (n - (k + 1)) := by
  have e : n - k = (n - (k + 1)) + 1 := by omega
  rw [e]
  rfl
theorem mul_np {a b : Int} (ha : a ≤ 0) (hb : 0 ≤ b) : a * b ≤ 0 := by
  have := Int.mul_nonneg (show 0 ≤ -a by omega) hb
  rw [Int.neg_mul] at this
  omega
theorem Dom.step {n k : Nat} {g : Nat → Nat → Int} {last : Int} (h : Dom n k g) (hk : k < n) (hp : g k k ≠ 0) (hl : 0 < last) : Dom n (k + 1) (elimD n k last g) := by
  have p0 : 0 < g k k := by have := (h.diag (Nat.le_refl _) hk).1; omega
  have hoff : ∀ i j, k + 1 ≤ i → i < n → k + 1 ≤ j → j < n → i ≠ j → g i j * g k k - g i k * g k j ≤ 0 := by
    intro i j h1 h2 h3 h4 h5
    have a := mul_np (h.off i j (by omega) h2 (by omega) h4 h5) (Int.le_of_lt p0)
    have b := Int.mul_nonneg (show 0 ≤ -(g i k) by have := h.off i k (by omega) h2 (Nat.le_refl _) hk (by omega); omega) (show 0 ≤ -(g k j) by have := h.off k j (Nat.le_refl _) hk (by omega) h4 (by omega); omega)
    rw [Int.neg_mul_neg] at b
    omega
  have ev : ∀ i j, k + 1 ≤ i → i < n → k + 1 ≤ j → j < n → elimD n k last g i j = (g i j * g k k - g i k * g k j).tdiv last := by
    intro i j h1 h2 h3 h4
    unfold elimD
    rw [if_pos (by omega)]
  refine ⟨fun i j h1 h2 h3 h4 => ?_, fun i j h1 h2 h3 h4 h5 => ?_, fun i h1 h2 => ?_⟩
  · rw [ev i j h1 h2 h3 h4, ev j i h3 h4 h1 h2, h.sym i j (by omega) h2 (by omega) h4, h.sym i k (by omega) h2 (Nat.le_refl _) hk, h.sym k j (Nat.le_refl _) hk (by omega) h4, Int.mul_comm (g k i)]
  · rw [ev i j h1 h2 h3 h4]
    exact (tdiv_np (hoff i j h1 h2 h3 h4 h5) hl).1
  · rw [rs_congr (g := fun j => (g i j * g k k - g i k * g k j).tdiv last) _ _ fun j h3 h4 => ev i j h1 h2 h3 (by omega)]
    refine rs_tdiv hl _ _ i h1 (by omega) (fun j h3 h4 h5 => hoff i j h1 h2 h3 (by omega) (fun q => h5 q.symm)) ?_
    rw [rs_lin]
    have r1 := h.row i (by omega) h2
    have r2 := h.row k (Nat.le_refl _) hk
    rw [rs_head _ hk] at r1 r2
    have a := Int.mul_nonneg r1 (Int.le_of_lt p0)
    have b := Int.mul_nonneg (show 0 ≤ -(g i k) by have := h.off i k (by omega) h2 (Nat.le_refl _) hk (by omega); omega) r2
    rw [Int.add_mul] at a
    rw [Int.neg_mul, Int.mul_add] at b
    omega
/-- The product of the first k numbers. -/
def prodD (D : Nat → Int) : Nat → Int
  | 0 => 1
  | k + 1 => D k * prodD D k
theorem prodD_pos {D : Nat → Int} : ∀ k, (∀ i, i < k → 0 ≤ D i) → 0 ≤ prodD D k
  | 0, _ => by show (0 : Int) ≤ 1; decide
  | k + 1, h => Int.mul_nonneg (h k (by omega)) (prodD_pos k fun i hi => h i (by omega))
/-- The state ahead of step k, as long as no pivot was 0. -/
structure StD (n : Nat) (f : Nat → Nat → Int) (k : Nat) : Prop where
  dom : Dom n k (stD n f k).1
  pos : 0 < (stD n f k).2
  le : (stD n f k).2 ≤ prodD (fun i => f i i) k
  diag : ∀ i, k ≤ i → i < n → (stD n f k).1 i i ≤ f i i * (stD n f k).2
theorem StD.start {n : Nat} {f : Nat → Nat → Int} (h : Dom n 0 f) : StD n f 0 := ⟨h, (by show (0 : Int) < 1; decide), Int.le_refl _, fun i _ _ => by simp [stD]⟩
theorem StD.next {n : Nat} {f : Nat → Nat → Int} (hf : ∀ i, i < n → 0 ≤ f i i) {k : Nat} (h : StD n f k) (hk : k < n) (hp : (stD n f k).1 k k ≠ 0) : StD n f (k + 1) := by
  have p0 : 0 < (stD n f k).1 k k := by have := (h.dom.diag (Nat.le_refl _) hk).1; omega
  have hd := h.diag k (Nat.le_refl _) hk
  refine ⟨h.dom.step hk hp h.pos, p0, ?_, fun i h1 h2 => ?_⟩
  · show (stD n f k).1 k k ≤ f k k * prodD (fun i => f i i) k
    exact Int.le_trans hd (Int.mul_le_mul_of_nonneg_left h.le (hf k hk))
  · show elimD n k (stD n f k).2 (stD n f k).1 i i ≤ f i i * (stD n f k).1 k k
    unfold elimD
    rw [if_pos (by omega)]
    have hnum : (stD n f k).1 i i * (stD n f k).1 k k - (stD n f k).1 i k * (stD n f k).1 k i ≤ (f i i * (stD n f k).1 k k) * (stD n f k).2 := by
      have a := Int.mul_le_mul_of_nonneg_right (h.diag i (by omega) h2) (Int.le_of_lt p0)
      have e : f i i * (stD n f k).2 * (stD n f k).1 k k = f i i * (stD n f k).1 k k * (stD n f k).2 := by
        rw [Int.mul_assoc, Int.mul_comm (stD n f k).2, ← Int.mul_assoc]
      have b := Int.mul_nonneg (show 0 ≤ -((stD n f k).1 i k) by have := h.dom.off i k (by omega) h2 (Nat.le_refl _) hk (by omega); omega) (show 0 ≤ -((stD n f k).1 k i) by have := h.dom.off k i (Nat.le_refl _) hk (by omega) h2 (by omega); omega)
      rw [Int.neg_mul_neg] at b
      rw [e] at a
      omega
    have hr : 0 ≤ f i i * (stD n f k).1 k k := Int.mul_nonneg (hf i h2) (Int.le_of_lt p0)
    rcases Int.le_total 0 ((stD n f k).1 i i * (stD n f k).1 k k - (stD n f k).1 i k * (stD n f k).1 k i) with q | q
    · have c := (tdiv_nn q h.pos).2.1
      exact Int.le_of_mul_le_mul_right (Int.le_trans c hnum) h.pos
    · have := (tdiv_np q h.pos).1
      omega
/-- Cubes are not above powers of 3. -/
theorem cube_le (d : Nat) : d * d * d ≤ 3 ^ d := by
  induction d with
  | zero => decide
  | succ d ih =>
    rcases Nat.lt_or_ge d 3 with h | h
    · have : d = 0 ∨ d = 1 ∨ d = 2 := by omega
      rcases this with rfl | rfl | rfl <;> decide
    · rw [Nat.pow_succ]
      have h1 : 3 * d * d ≤ d * d * d := by
        have := Nat.mul_le_mul_right (d * d) h
        rw [← Nat.mul_assoc, ← Nat.mul_assoc] at this
        exact this
      have h2 : 3 * 3 * d ≤ 3 * d * d := by
        have := Nat.mul_le_mul_right d (Nat.mul_le_mul_left 3 h)
        exact this
      have e : (d + 1) * (d + 1) * (d + 1) = d * d * d + 3 * d * d + 3 * d + 1 := by
        have : (d + 1) * (d + 1) = d * d + 2 * d + 1 := by rw [Nat.add_mul, Nat.mul_add]; omega
        rw [this, Nat.add_mul, Nat.add_mul, Nat.mul_add, Nat.mul_add]
        have e2 : 2 * d * d = d * d + d * d := by rw [Nat.mul_assoc]; omega
        have e3 : 3 * d * d = d * d + d * d + d * d := by rw [Nat.mul_assoc]; omega
        omega
      have e4 : 3 * d * d ≤ d * d * d := h1
      omega
theorem prod_cube (D : Nat → Int) : ∀ k, (∀ i, i < k → 0 ≤ D i) → prodD D k * prodD D k * prodD D k ≤ 3 ^ (rs D 0 k).toNat ∧ 0 ≤ rs D 0 k
  | 0, _ => by simp [prodD, rs]
  | k + 1, h => by
    obtain ⟨h1, h2⟩ := prod_cube D k fun i hi => h i (by omega)
    have e : ∀ (c k : Nat), rs D k (c + 1) = rs D k c + D (k + c) := by
      intro c
      induction c with
      | zero => intro k; simp [rs]
      | succ c ih =>
        intro k
        have := ih (k + 1)
        simp only [rs] at this ⊢
        have e2 : k + 1 + c = k + (c + 1) := by omega
        rw [e2] at this
        omega
    have hd := h k (by omega)
    rw [e k 0, Nat.zero_add]
    refine ⟨?_, by omega⟩
    obtain ⟨d, hd'⟩ := Int.eq_ofNat_of_zero_le hd
    obtain ⟨p, hp⟩ := Int.eq_ofNat_of_zero_le (prodD_pos k fun i hi => h i (by omega))
    obtain ⟨s, hs⟩ := Int.eq_ofNat_of_zero_le h2
    simp only [prodD]
    rw [hd', hp, hs]
    rw [hp, hs] at h1
    have e1 : ((s : Int) + (d : Int)).toNat = s + d := by omega
    have e3 : ((s : Int)).toNat = s := by omega
    rw [e1]
    rw [e3] at h1
    have h1' : p * p * p ≤ 3 ^ s := by exact_mod_cast h1
    have hc := cube_le d
    have hm := Nat.mul_le_mul hc h1'
    have e4 : d * p * (d * p) * (d * p) = d * d * d * (p * p * p) := by
      simp only [Nat.mul_assoc, Nat.mul_left_comm, Nat.mul_comm]
    rw [← e4, ← Nat.pow_add, Nat.add_comm d s] at hm
    exact_mod_cast hm
/-- The product of numbers that sum to at most 40. -/
theorem prod_le (D : Nat → Int) (k : Nat) (h : ∀ i, i < k → 0 ≤ D i) (hs : rs D 0 k ≤ 40) : prodD D k ≤ 2300000 := by
  obtain ⟨h1, h2⟩ := prod_cube D k h
  have h0 := prodD_pos k h
  rcases Int.lt_or_le 2300000 (prodD D k) with q | q
  · exfalso
    obtain ⟨p, hp⟩ := Int.eq_ofNat_of_zero_le h0
    obtain ⟨s, hs'⟩ := Int.eq_ofNat_of_zero_le h2
    rw [hp] at h1 q
    rw [hs'] at h1 hs
    have e3 : ((s : Int)).toNat = s := by omega
    rw [e3] at h1
    have h1' : p * p * p ≤ 3 ^ s := by exact_mod_cast h1
    have hp' : 2300000 ≤ p := by omega
    have a := Nat.mul_le_mul (Nat.mul_le_mul hp' hp') hp'
    have b : 3 ^ s ≤ 3 ^ 40 := Nat.pow_le_pow_right (by decide) (by omega)
    have c : (3 : Nat) ^ 40 = 12157665459056928801 := by decide
    omega
  · exact q
end Go.Proofs.Ytabgcpoaepafjaa
