/- Words and walks for the law FnTrees, a part of them. No condition but that the arguments lie in memory. -/
import Derived.Test.YtabgcpoaepafjaaU3
import Derived.Test.YtabgcpoaepafjaaU12
set_option linter.unusedVariables false
set_option linter.unusedSimpArgs false
namespace Go.Proofs.Ytabgcpoaepafjaa
abbrev Mx := Nat → Nat → Int
/-- The columns behind column j move up. -/
def skip (j k : Nat) : Nat := if k < j then k else k + 1
def sg (n : Nat) : Int := if n % 2 = 0 then 1 else -1
theorem sg_succ (n : Nat) : sg (n + 1) = - sg n := by unfold sg; split <;> split <;> omega
/-- The determinant of the first n rows and columns, by its last row. -/
def det : Nat → Mx → Int
  | 0, _ => 1
  | n + 1, M => sumI (fun j => sg (n + j) * M n j * det n fun i k => M i (skip j k)) (n + 1)
theorem det_congr : ∀ {n : Nat} {M M' : Mx}, (∀ i j, i < n → j < n → M i j = M' i j) → det n M = det n M'
  | 0, _, _, _ => rfl
  | n + 1, M, M', h => by
    simp only [det]
    refine sumI_congr _ fun j hj => ?_
    rw [h n j (by omega) hj, det_congr (n := n) (M := fun i k => M i (skip j k)) (M' := fun i k => M' i (skip j k)) fun i k hi hk => h i _ (by omega) (by unfold skip; split <;> omega)]
/-- The matrix with another row | column. -/
def rowS (M : Mx) (a : Nat) (r : Nat → Int) : Mx := fun i j => if i = a then r j else M i j
def colS (M : Mx) (c : Nat) (r : Nat → Int) : Mx := fun i j => if j = c then r i else M i j
theorem rowS_self (M : Mx) (a : Nat) : rowS M a (M a) = M := by
  funext i j; unfold rowS; split
  · rename_i h; rw [h]
  · rfl
theorem colS_self (M : Mx) (c : Nat) : colS M c (fun i => M i c) = M := by
  funext i j; unfold colS; split
  · rename_i h; rw [h]
  · rfl
theorem row_lin {a : Nat} (x y : Int) (r s : Nat → Int) : ∀ {n : Nat} {M : Mx}, a < n → det n (rowS M a fun j => x * r j + y * s j) = x * det n (rowS M a r) + y * det n (rowS M a s)
  | 0, _, h => absurd h (by omega)
  | n + 1, M, h => by
    simp only [det]
    rw [← sumI_mul, ← sumI_mul, ← sumI_add]
    refine sumI_congr _ fun j hj => ?_
    by_cases e : a = n
    · subst e
      have : ∀ (q : Nat → Int), (det a fun i k => rowS M a q i (skip j k)) = det a fun i k => M i (skip j k) := fun q => det_congr fun i k hi hk => if_neg (by omega)
      rw [this, this, this]
      simp only [rowS, if_pos]
      grind
    · have ea : ∀ (q : Nat → Int), (fun i k => rowS M a q i (skip j k)) = rowS (fun i k => M i (skip j k)) a fun k => q (skip j k) := fun q => rfl
      have en : ∀ (q : Nat → Int), rowS M a q n j = M n j := fun q => if_neg (fun h => e h.symm)
      rw [ea, ea, ea, en, en, en, row_lin x y (fun k => r (skip j k)) (fun k => s (skip j k)) (by omega : a < n)]
      grind
theorem row_add {a n : Nat} {M : Mx} (r s : Nat → Int) (h : a < n) : det n (rowS M a fun j => r j + s j) = det n (rowS M a r) + det n (rowS M a s) := by
  have := row_lin (M := M) 1 1 r s h
  simpa using this
theorem row_mul {a n : Nat} {M : Mx} (x : Int) (r : Nat → Int) (h : a < n) : det n (rowS M a fun j => x * r j) = x * det n (rowS M a r) := by
  have := row_lin (M := M) x 0 r r h
  simpa using this
theorem skip_inv {j c k : Nat} (h : j ≠ c) : skip j k = c ↔ k = if c < j then c else c - 1 := by unfold skip; split <;> split <;> omega
theorem col_lin (x y : Int) : ∀ {n c : Nat} (r s : Nat → Int) {M : Mx}, c < n → det n (colS M c fun i => x * r i + y * s i) = x * det n (colS M c r) + y * det n (colS M c s)
  | 0, _, _, _, _, h => absurd h (by omega)
  | n + 1, c, r, s, M, h => by
    simp only [det]
    rw [← sumI_mul, ← sumI_mul, ← sumI_add]
    refine sumI_congr _ fun j hj => ?_
    by_cases e : j = c
    · subst e
      have : ∀ (q : Nat → Int), (det n fun i k => colS M j q i (skip j k)) = det n fun i k => M i (skip j k) := fun q => det_congr fun i k hi hk => if_neg (by unfold skip; split <;> omega)
      rw [this, this, this]
      simp only [colS, if_pos]
      grind
    · have hc : (if c < j then c else c - 1) < n := by split <;> omega
      have ea : ∀ (q : Nat → Int), (fun i k => colS M c q i (skip j k)) = colS (fun i k => M i (skip j k)) (if c < j then c else c - 1) q := fun q => by
        funext i k
        unfold colS
        by_cases q : skip j k = c
        · rw [if_pos q, if_pos ((skip_inv e).1 q)]
        · rw [if_neg q, if_neg (fun q' => q ((skip_inv e).2 q'))]
      have en : ∀ (q : Nat → Int), colS M c q n j = M n j := fun q => if_neg e
      rw [ea, ea, ea, en, en, en, col_lin x y r s hc]
      grind
/-- Two columns beside each other that are alike. -/
theorem col_adj : ∀ {n c : Nat} {M : Mx}, c + 1 < n → (∀ i, i < n → M i c = M i (c + 1)) → det n M = 0
  | 0, _, _, h, _ => absurd h (by omega)
  | n + 1, c, M, h, he => by
    simp only [det]
    have hz : ∀ j, j < n + 1 → j ≠ c → j ≠ c + 1 → sg (n + j) * M n j * (det n fun i k => M i (skip j k)) = 0 := fun j hj h1 h2 => by
      have : (det n fun i k => M i (skip j k)) = 0 := by
        rcases Nat.lt_or_ge c j with hlt | hge
        · refine col_adj (c := c) (by omega) fun i hi => ?_
          have e1 : skip j c = c := if_pos hlt
          have e2 : skip j (c + 1) = c + 1 := if_pos (by omega)
          rw [e1, e2]
          exact he i (by omega)
        · refine col_adj (c := c - 1) (by omega) fun i hi => ?_
          have e1 : skip j (c - 1) = c := by unfold skip; split <;> omega
          have e2 : skip j (c - 1 + 1) = c + 1 := by unfold skip; split <;> omega
          rw [e1, e2]
          exact he i (by omega)
      rw [this, Int.mul_zero]
    have hd : (det n fun i k => M i (skip c k)) = det n fun i k => M i (skip (c + 1) k) := det_congr fun i k hi hk => by
      unfold skip
      by_cases q : k = c
      · subst q
        rw [if_neg (by omega), if_pos (by omega)]
        exact (he i (by omega)).symm
      · by_cases q1 : k < c
        · rw [if_pos q1, if_pos (by omega)]
        · rw [if_neg q1, if_neg (by omega)]
    have e1 : sumI (fun j => sg (n + j) * M n j * det n fun i k => M i (skip j k)) (n + 1) = sumI (fun j => (if j = c then sg (n + c) * M n c * (det n fun i k => M i (skip c k)) else 0) + (if j = c + 1 then sg (n + (c + 1)) * M n (c + 1) * (det n fun i k => M i (skip (c + 1) k)) else 0)) (n + 1) := by
      refine sumI_congr _ fun j hj => ?_
      by_cases q : j = c
      · subst q
        rw [if_pos rfl, if_neg (by omega)]
        omega
      · by_cases q2 : j = c + 1
        · subst q2
          rw [if_neg (by omega), if_pos rfl]
          omega
        · rw [if_neg q, if_neg q2, hz j hj q q2]
          rfl
    rw [e1, sumI_add, sumI_one (k := c) _ (fun i _ hi => if_neg hi), sumI_one (k := c + 1) _ (fun i _ hi => if_neg hi), if_pos (by omega : c < n + 1), if_pos rfl, if_pos (by omega : c + 1 < n + 1), if_pos rfl, ← he n (by omega), ← hd, show n + (c + 1) = n + c + 1 from rfl, sg_succ]
    grind
theorem double_sum {N : Nat} {F : Nat → Nat → Int} (h : ∀ j k, j ≤ k → k < N → F j k + F (k + 1) j = 0) : sumI (fun j => sumI (F j) N) (N + 1) = 0 := by
  have e : sumI (fun j => sumI (F j) N) (N + 1) = sumI (fun j => sumI (fun k => if j ≤ k then F j k else 0) N) (N + 1) + sumI (fun j => sumI (fun k => if k < j then F j k else 0) N) (N + 1) := by
    rw [← sumI_add]
    refine sumI_congr _ fun j _ => ?_
    rw [← sumI_add]
    refine sumI_congr _ fun k _ => ?_
    by_cases q : j ≤ k
    · rw [if_pos q, if_neg (by omega)]; omega
    · rw [if_neg q, if_pos (by omega)]; omega
  have s1 : ∀ (G : Nat → Nat → Int) (m : Nat), sumI (fun j => sumI (fun k => if j ≤ k then G j k else 0) N) (m + 1) = sumI (fun j => sumI (fun k => if j ≤ k then G j k else 0) N) m + sumI (fun k => if m ≤ k then G m k else 0) N := fun G m => rfl
  have e1 : sumI (fun j => sumI (fun k => if j ≤ k then F j k else 0) N) (N + 1) = sumI (fun j => sumI (fun k => if j ≤ k then F j k else 0) N) N := by
    rw [s1]
    have : sumI (fun k => if N ≤ k then F N k else 0) N = 0 := by
      rw [sumI_congr (g := fun _ => 0) N fun k hk => if_neg (by omega), sumI_zero]
    omega
  have shift : ∀ (G : Nat → Int) (m : Nat), G 0 = 0 → sumI G (m + 1) = sumI (fun j => G (j + 1)) m := fun G m h0 => by
    induction m with
    | zero => simp [sumI, h0]
    | succ m ih => rw [sumI, ih, sumI]
  have e2 : sumI (fun j => sumI (fun k => if k < j then F j k else 0) N) (N + 1) = sumI (fun j => sumI (fun k => if k ≤ j then F (j + 1) k else 0) N) N := by
    rw [shift (fun j => sumI (fun k => if k < j then F j k else 0) N) N (by rw [sumI_congr (g := fun _ => 0) N fun k hk => if_neg (by omega), sumI_zero])]
    refine sumI_congr _ fun j _ => sumI_congr _ fun k _ => ?_
    by_cases q : k ≤ j
    · rw [if_pos q, if_pos (by omega)]
    · rw [if_neg q, if_neg (by omega)]
  rw [e, e1, e2, sumI_swap, ← sumI_add, sumI_congr (g := fun _ => 0) N, sumI_zero]
  intro k hk
  rw [← sumI_add, sumI_congr (g := fun _ => 0) N, sumI_zero]
  intro j hj
  by_cases q : j ≤ k
  · rw [if_pos q, if_pos q]
    exact h j k q hk
  · rw [if_neg q, if_neg q]
    rfl
/-- Two rows beside each other that are alike. -/
theorem row_adj : ∀ {n a : Nat} {M : Mx}, a + 1 < n → (∀ j, j < n → M a j = M (a + 1) j) → det n M = 0
  | 0, _, _, h, _ => absurd h (by omega)
  | n + 1, a, M, h, he => by
    by_cases e : a + 1 = n
    · subst e
      simp only [det]
      have e1 : sumI (fun j => sg (a + 1 + j) * M (a + 1) j * sumI (fun k => sg (a + k) * M a (skip j k) * det a fun i k' => M i (skip j (skip k k'))) (a + 1)) (a + 1 + 1) = sumI (fun j => sumI (fun k => sg (a + 1 + j) * M (a + 1) j * (sg (a + k) * M a (skip j k) * det a fun i k' => M i (skip j (skip k k')))) (a + 1)) (a + 1 + 1) := sumI_congr _ fun j _ => (sumI_mul _ _ _).symm
      rw [e1]
      refine double_sum fun j k hjk hk => ?_
      have s1 : skip j k = k + 1 := if_neg (by omega)
      have s2 : skip (k + 1) j = j := if_pos (by omega)
      have hd : (det a fun i k' => M i (skip j (skip k k'))) = det a fun i k' => M i (skip (k + 1) (skip j k')) := det_congr fun i k' _ _ => by
        have : skip j (skip k k') = skip (k + 1) (skip j k') := by unfold skip; split <;> split <;> split <;> (try split) <;> omega
        rw [this]
      rw [s1, s2, hd, he (k + 1) (by omega), ← he j (by omega), show a + 1 + (k + 1) = a + 1 + k + 1 from rfl, sg_succ (a + 1 + k), show a + 1 + j = a + j + 1 from by omega, show a + 1 + k = a + k + 1 from by omega, sg_succ, sg_succ, he j (by omega)]
      grind
    · simp only [det]
      rw [sumI_congr (g := fun _ => 0) _ fun j hj => ?_, sumI_zero]
      have : (det n fun i k => M i (skip j k)) = 0 := row_adj (a := a) (by omega) fun k hk => he _ (by unfold skip; split <;> omega)
      rw [this, Int.mul_zero]
/-! swaps -/
theorem rowS_comm (M : Mx) {a b : Nat} (h : a ≠ b) (r s : Nat → Int) : rowS (rowS M a r) b s = rowS (rowS M b s) a r := by
  funext i j; unfold rowS; by_cases e : i = a
  · rw [if_neg (by omega), if_pos e, if_pos e]
  · by_cases e2 : i = b
    · rw [if_pos e2, if_neg e, if_pos e2]
    · rw [if_neg e2, if_neg e, if_neg e, if_neg e2]
theorem colS_comm (M : Mx) {a b : Nat} (h : a ≠ b) (r s : Nat → Int) : colS (colS M a r) b s = colS (colS M b s) a r := by
  funext i j; unfold colS; by_cases e : j = a
  · rw [if_neg (by omega), if_pos e, if_pos e]
  · by_cases e2 : j = b
    · rw [if_pos e2, if_neg e, if_pos e2]
    · rw [if_neg e2, if_neg e, if_neg e, if_neg e2]
theorem row_swap {n a : Nat} {M : Mx} (h : a + 1 < n) (r s : Nat → Int) : det n (rowS (rowS M a r) (a + 1) s) = - det n (rowS (rowS M a s) (a + 1) r) := by
  have key : ∀ q : Nat → Int, det n (rowS (rowS M a q) (a + 1) q) = 0 := fun q => row_adj h fun j _ => by
    show (if a = a + 1 then _ else if a = a then q j else _) = (if a + 1 = a + 1 then q j else _)
    rw [if_neg (by omega), if_pos rfl, if_pos rfl]
  have l1 : ∀ q : Nat → Int, det n (rowS (rowS M a fun j => r j + s j) (a + 1) q) = det n (rowS (rowS M a r) (a + 1) q) + det n (rowS (rowS M a s) (a + 1) q) := fun q => by
    rw [rowS_comm M (by omega) _ q, rowS_comm M (by omega) _ q, rowS_comm M (by omega) _ q, row_add r s (by omega : a < n)]
  have h1 := key fun j => r j + s j
  rw [l1, row_add r s h, row_add r s h, key, key] at h1
  omega
theorem col_swap {n a : Nat} {M : Mx} (h : a + 1 < n) (r s : Nat → Int) : det n (colS (colS M a r) (a + 1) s) = - det n (colS (colS M a s) (a + 1) r) := by
  have key : ∀ q : Nat → Int, det n (colS (colS M a q) (a + 1) q) = 0 := fun q => col_adj h fun i _ => by
    show (if a = a + 1 then _ else if a = a then q i else _) = (if a + 1 = a + 1 then q i else _)
    rw [if_neg (by omega), if_pos rfl, if_pos rfl]
  have add : ∀ (M : Mx) (c : Nat), c < n → det n (colS M c fun i => r i + s i) = det n (colS M c r) + det n (colS M c s) := fun M c hc => by
    have := col_lin (M := M) 1 1 r s hc
    simpa using this
  have l1 : ∀ q : Nat → Int, det n (colS (colS M a fun j => r j + s j) (a + 1) q) = det n (colS (colS M a r) (a + 1) q) + det n (colS (colS M a s) (a + 1) q) := fun q => by
    rw [colS_comm M (by omega) _ q, colS_comm M (by omega) _ q, colS_comm M (by omega) _ q, add _ a (by omega)]
  have h1 := key fun j => r j + s j
  rw [l1, add _ _ h, add _ _ h, key, key] at h1
  omega
theorem det_row_same {n : Nat} : ∀ (k : Nat) {a : Nat} {M : Mx}, a + 1 + k < n → (∀ j, j < n → M a j = M (a + 1 + k) j) → det n M = 0
  | 0, a, M, h, he => row_adj h he
  | k + 1, a, M, h, he => by
    have e : M = rowS (rowS M (a + 1 + k) (M (a + 1 + k))) (a + 1 + k + 1) (M (a + 1 + k + 1)) := by rw [rowS_self, rowS_self]
    rw [e, row_swap (show a + 1 + k + 1 < n by omega)]
    have := det_row_same (n := n) k (a := a) (M := rowS (rowS M (a + 1 + k) (M (a + 1 + k + 1))) (a + 1 + k + 1) (M (a + 1 + k))) (by omega) fun j hj => by
      show (if a = a + 1 + k + 1 then _ else if a = a + 1 + k then _ else M a j) = (if a + 1 + k = a + 1 + k + 1 then _ else if a + 1 + k = a + 1 + k then M (a + 1 + k + 1) j else _)
      rw [if_neg (by omega), if_neg (by omega), if_neg (by omega), if_pos rfl]
      exact he j hj
    omega
theorem col_same {n : Nat} : ∀ (k : Nat) {a : Nat} {M : Mx}, a + 1 + k < n → (∀ i, i < n → M i a = M i (a + 1 + k)) → det n M = 0
  | 0, a, M, h, he => col_adj h he
  | k + 1, a, M, h, he => by
    have e : M = colS (colS M (a + 1 + k) (fun i => M i (a + 1 + k))) (a + 1 + k + 1) (fun i => M i (a + 1 + k + 1)) := by rw [colS_self, colS_self]
    rw [e, col_swap (show a + 1 + k + 1 < n by omega)]
    have := col_same (n := n) k (a := a) (M := colS (colS M (a + 1 + k) (fun i => M i (a + 1 + k + 1))) (a + 1 + k + 1) (fun i => M i (a + 1 + k))) (by omega) fun i hi => by
      show (if a = a + 1 + k + 1 then _ else if a = a + 1 + k then _ else M i a) = (if a + 1 + k = a + 1 + k + 1 then _ else if a + 1 + k = a + 1 + k then M i (a + 1 + k + 1) else _)
      rw [if_neg (by omega), if_neg (by omega), if_neg (by omega), if_pos rfl]
      exact he i hi
    omega
theorem row_eq {n a b : Nat} {M : Mx} (ha : a < n) (hb : b < n) (hne : a ≠ b) (h : ∀ j, j < n → M a j = M b j) : det n M = 0 := by
  rcases Nat.lt_or_gt_of_ne hne with hlt | hgt
  · obtain ⟨k, rfl⟩ : ∃ k, b = a + 1 + k := ⟨b - a - 1, by omega⟩
    exact det_row_same k hb h
  · obtain ⟨k, rfl⟩ : ∃ k, a = b + 1 + k := ⟨a - b - 1, by omega⟩
    exact det_row_same k ha fun j hj => (h j hj).symm
theorem col_eq {n a b : Nat} {M : Mx} (ha : a < n) (hb : b < n) (hne : a ≠ b) (h : ∀ i, i < n → M i a = M i b) : det n M = 0 := by
  rcases Nat.lt_or_gt_of_ne hne with hlt | hgt
  · obtain ⟨k, rfl⟩ : ∃ k, b = a + 1 + k := ⟨b - a - 1, by omega⟩
    exact col_same k hb h
  · obtain ⟨k, rfl⟩ : ∃ k, a = b + 1 + k := ⟨a - b - 1, by omega⟩
    exact col_same k ha fun j hj => (h j hj).symm
/-- A row | column and some of another one. -/
theorem row_op {n a b : Nat} {M : Mx} (ha : a < n) (hb : b < n) (hne : a ≠ b) (x : Int) (r : Nat → Int) : det n (rowS M a fun j => r j + x * M b j) = det n (rowS M a r) := by
  have h1 := row_lin (M := M) 1 x r (M b) ha
  have h2 : det n (rowS M a (M b)) = 0 := row_eq ha hb hne fun j _ => by
    show (if a = a then M b j else _) = if b = a then _ else M b j
    rw [if_pos rfl, if_neg (fun e => hne e.symm)]
  rw [h2] at h1
  simpa using h1
theorem col_op {n a b : Nat} {M : Mx} (ha : a < n) (hb : b < n) (hne : a ≠ b) (x : Int) (r : Nat → Int) : det n (colS M a fun i => r i + x * M i b) = det n (colS M a r) := by
  have h1 := col_lin (M := M) 1 x r (fun i => M i b) ha
  have h2 : det n (colS M a fun i => M i b) = 0 := col_eq ha hb hne fun i _ => by
    show (if a = a then M i b else _) = if b = a then _ else M i b
    rw [if_pos rfl, if_neg (fun e => hne e.symm)]
  rw [h2] at h1
  simpa using h1
/-- A row with one number. -/
def unit (a : Nat) : Nat → Int := fun j => if j = a then 1 else 0
theorem row_zero {n a : Nat} {M : Mx} (ha : a < n) (h : ∀ j, j < n → M a j = 0) : det n M = 0 := by
  have := row_mul (M := M) 0 (M a) ha
  rw [Int.zero_mul] at this
  rw [← this]
  exact det_congr fun i j hi hj => by
    unfold rowS
    split
    · rename_i e; rw [e, h j hj]; simp
    · rfl
theorem col_zero {n c : Nat} {M : Mx} (hc : c < n) (h : ∀ i, i < n → M i c = 0) : det n M = 0 := by
  have := col_lin (M := M) 0 0 (fun i => M i c) (fun i => M i c) hc
  rw [Int.zero_mul, Int.zero_add] at this
  rw [← this]
  exact det_congr fun i j hi hj => by
    unfold colS
    split
    · rename_i e; rw [e, h i hi]; simp
    · rfl
/-- The last row has its number at the end alone. -/
theorem last_row {n : Nat} {M : Mx} (h : ∀ j, j < n → M n j = 0) : det (n + 1) M = M n n * det n M := by
  simp only [det]
  rw [sumI_one (k := n) _ fun i hi hne => by rw [h i (by omega)]; simp, if_pos (by omega)]
  have e : sg (n + n) = 1 := if_pos (by omega)
  rw [e, Int.one_mul]
  congr 1
  exact det_congr fun i k hi hk => by rw [show skip n k = k from if_pos hk]
/-- A list of sums in a column | row. -/
theorem col_sum {n c : Nat} {M : Mx} (hc : c < n) (x : Nat → Int) (v : Nat → Nat → Int) : ∀ m, det n (colS M c fun i => sumI (fun t => x t * v t i) m) = sumI (fun t => x t * det n (colS M c (v t))) m
  | 0 => col_zero hc fun i _ => if_pos rfl
  | m + 1 => by
    simp only [sumI]
    rw [← col_sum hc x v m]
    have := col_lin (M := M) 1 (x m) (fun i => sumI (fun t => x t * v t i) m) (v m) hc
    simpa using this
theorem row_sum {n a : Nat} {M : Mx} (ha : a < n) (x : Nat → Int) (v : Nat → Nat → Int) : ∀ m, det n (rowS M a fun j => sumI (fun t => x t * v t j) m) = sumI (fun t => x t * det n (rowS M a (v t))) m
  | 0 => row_zero ha fun i _ => if_pos rfl
  | m + 1 => by
    simp only [sumI]
    rw [← row_sum ha x v m]
    have := row_lin (M := M) 1 (x m) (fun i => sumI (fun t => x t * v t i) m) (v m) ha
    simpa using this
theorem unit_sum (r : Nat → Int) {n j : Nat} (hj : j < n) : sumI (fun t => r t * unit t j) n = r j := by
  rw [sumI_one (k := j) _ fun i _ hne => by show r i * (if j = i then 1 else 0) = 0; rw [if_neg (fun e => hne e.symm), Int.mul_zero], if_pos hj]
  simp [unit]
/-- Rows and columns swapped. -/
theorem row_unit {n a : Nat} {M : Mx} (ha : a < n) : ∀ m, m ≤ n → det n (rowS M a (unit a)) = det n (fun i j => if i = a then unit a j else if i < m ∧ j = a then 0 else M i j)
  | 0, _ => det_congr fun i j _ _ => by unfold rowS; split <;> simp
  | m + 1, hm => by
    rw [row_unit ha m (by omega)]
    by_cases e : m = a
    · subst e
      refine det_congr fun i j _ _ => ?_
      by_cases q : i = m
      · rw [if_pos q, if_pos q]
      · rw [if_neg q, if_neg q]
        by_cases q2 : i < m ∧ j = m
        · rw [if_pos q2, if_pos (by omega)]
        · rw [if_neg q2, if_neg (by omega)]
    · have h1 := row_op (M := fun i j => if i = a then unit a j else if i < m ∧ j = a then 0 else M i j) (by omega : m < n) ha e (- M m a) (M m)
      have e1 : (rowS (fun i j => if i = a then unit a j else if i < m ∧ j = a then 0 else M i j) m (M m)) = fun i j => if i = a then unit a j else if i < m ∧ j = a then 0 else M i j := by
        funext i j
        unfold rowS
        by_cases q : i = m
        · rw [if_pos q, if_neg (by omega), if_neg (by omega), q]
        · rw [if_neg q]
      rw [e1] at h1
      rw [← h1]
      refine det_congr fun i j _ _ => ?_
      unfold rowS
      by_cases q : i = m
      · rw [if_pos q, if_neg (by omega)]
        show M m j + -M m a * (if a = a then unit a j else _) = _
        rw [if_pos rfl]
        by_cases q2 : j = a
        · rw [if_pos (by omega), q2]
          simp [unit]
          omega
        · rw [if_neg (by omega), q]
          simp [unit, q2]
      · rw [if_neg q]
        show (if i = a then unit a j else if i < m ∧ j = a then 0 else M i j) = _
        by_cases q1 : i = a
        · rw [if_pos q1, if_pos q1]
        · rw [if_neg q1, if_neg q1]
          by_cases q2 : i < m ∧ j = a
          · rw [if_pos q2, if_pos (by omega)]
          · rw [if_neg q2, if_neg (by omega)]
/-- A row and a combination of earlier rows. -/
theorem row_comb {n a : Nat} {M : Mx} (ha : a < n) (d : Int) (x : Nat → Int) {m : Nat} (hm : m ≤ a) : det n (rowS M a fun j => d * M a j + sumI (fun t => x t * M t j) m) = d * det n M := by
  have h1 := row_lin (M := M) d 1 (M a) (fun j => sumI (fun t => x t * M t j) m) ha
  rw [rowS_self, row_sum ha x M m] at h1
  have hz : sumI (fun t => x t * det n (rowS M a (M t))) m = 0 := by
    rw [sumI_congr (g := fun _ => 0) m fun t ht => ?_, sumI_zero]
    have : det n (rowS M a (M t)) = 0 := row_eq ha (by omega : t < n) (by omega) fun j _ => by
      show (if a = a then M t j else _) = if t = a then _ else M t j
      rw [if_pos rfl, if_neg (by omega)]
    rw [this, Int.mul_zero]
  rw [hz] at h1
  simpa using h1
/-- The minor of the first k rows and columns with one row and one column more. -/
def bor (M : Mx) (k r c : Nat) : Int := det (k + 1) fun i j => M (if i = k then r else i) (if j = k then c else j)
/-- The coefficients of a bordered minor, by its column. -/
def cof (M : Mx) (k r t : Nat) : Int := det (k + 1) (colS (fun i j => M (if i = k then r else i) j) k (unit t))
theorem bor_sum (M : Mx) (k r c : Nat) : bor M k r c = sumI (fun t => M (if t = k then r else t) c * cof M k r t) (k + 1) := by
  have h1 := col_sum (M := fun i j => M (if i = k then r else i) j) (by omega : k < k + 1) (fun t => M (if t = k then r else t) c) unit (k + 1)
  unfold cof
  rw [← h1]
  refine det_congr fun i j hi hj => ?_
  unfold colS
  by_cases e : j = k
  · rw [if_pos e, if_pos e]
    have : sumI (fun t => M (if t = k then r else t) c * unit t i) (k + 1) = M (if i = k then r else i) c := unit_sum (fun t => M (if t = k then r else t) c) hi
    exact this.symm
  · rw [if_neg e, if_neg e]
theorem cof_last (M : Mx) (k r : Nat) : cof M k r k = det k M := by
  unfold cof
  simp only [det]
  rw [sumI_one (k := k) _ fun j hj hne => ?_, if_pos (by omega)]
  · have e : sg (k + k) = 1 := if_pos (by omega)
    rw [e]
    show 1 * (if k = k then unit k k else _) * _ = _
    rw [if_pos rfl]
    simp only [unit, if_pos]
    rw [Int.one_mul, Int.one_mul]
    refine det_congr fun i j hi hj => ?_
    rw [show skip k j = j from if_pos hj]
    show (if j = k then _ else M (if i = k then r else i) j) = _
    rw [if_neg (by omega), if_neg (by omega)]
  · have : (det k fun i m => colS (fun i j => M (if i = k then r else i) j) k (unit k) i (skip j m)) = 0 := by
      refine col_zero (c := k - 1) (by omega) fun i hi => ?_
      have : skip j (k - 1) = k := by unfold skip; split <;> omega
      rw [this]
      show (if k = k then unit k i else _) = 0
      rw [if_pos rfl]
      exact if_neg (by omega)
    rw [this, Int.mul_zero]
theorem bor_low (M : Mx) {k r c : Nat} (hc : c < k) : bor M k r c = 0 := col_eq (by omega : c < k + 1) (by omega : k < k + 1) (by omega) fun i _ => by
  show M _ (if c = k then c else c) = M _ (if k = k then c else k)
  have : (if c = k then c else c) = c := by split <;> rfl
  rw [this]
  simp
theorem bor_row (M : Mx) (k r c : Nat) : bor M k r c = det k M * M r c + sumI (fun t => cof M k r t * M t c) k := by
  rw [bor_sum]
  simp only [sumI, if_pos]
  rw [cof_last, sumI_congr (g := fun t => cof M k r t * M t c) k fun t ht => by rw [if_neg (by omega), Int.mul_comm]]
  rw [Int.mul_comm (M r c)]
  omega
theorem bor_self (M : Mx) (k : Nat) : bor M k k k = det (k + 1) M := det_congr fun i j _ _ => by
  by_cases e : i = k <;> by_cases q : j = k <;> simp [e, q]
theorem jacobi {k : Nat} {M : Mx} (hd : det k M ≠ 0) : det k M * det (k + 2) M = bor M k k k * bor M k (k + 1) (k + 1) - bor M k k (k + 1) * bor M k (k + 1) k := by
  obtain ⟨d, hdd⟩ : ∃ d, det k M = d := ⟨_, rfl⟩
  have h1 := row_comb (M := M) (by omega : k < k + 2) d (cof M k k) (Nat.le_refl k)
  have e1 : (rowS M k fun j => d * M k j + sumI (fun t => cof M k k t * M t j) k) = rowS M k (bor M k k) := by
    congr 1
    funext j
    rw [bor_row, hdd]
  rw [e1] at h1
  have h2 := row_comb (M := rowS M k (bor M k k)) (by omega : k + 1 < k + 2) d (cof M k (k + 1)) (Nat.le_succ k)
  have e2 : (rowS (rowS M k (bor M k k)) (k + 1) fun j => d * rowS M k (bor M k k) (k + 1) j + sumI (fun t => cof M k (k + 1) t * rowS M k (bor M k k) t j) k) = rowS (rowS M k (bor M k k)) (k + 1) (bor M k (k + 1)) := by
    congr 1
    funext j
    rw [bor_row, hdd]
    congr 1
    · show d * (if k + 1 = k then _ else M (k + 1) j) = _
      rw [if_neg (by omega)]
    · refine sumI_congr _ fun t ht => ?_
      show _ * (if t = k then _ else M t j) = _
      rw [if_neg (by omega)]
  rw [e2, h1] at h2
  obtain ⟨N, hN⟩ : ∃ N, rowS (rowS M k (bor M k k)) (k + 1) (bor M k (k + 1)) = N := ⟨_, rfl⟩
  have n1 : ∀ j, N (k + 1) j = bor M k (k + 1) j := fun j => by rw [← hN]; exact if_pos rfl
  have n0 : ∀ j, N k j = bor M k k j := fun j => by
    rw [← hN]
    show (if k = k + 1 then _ else if k = k then bor M k k j else _) = _
    rw [if_neg (by omega), if_pos rfl]
  have nl : ∀ i j, i < k → N i j = M i j := fun i j hi => by
    rw [← hN]
    show (if i = k + 1 then _ else if i = k then _ else M i j) = _
    rw [if_neg (by omega), if_neg (by omega)]
  rw [hN] at h2
  have hk : det k N = d := by rw [← hdd]; exact det_congr fun i j hi _ => nl i j hi
  have g1 : (det (k + 1) fun i j => N i (skip k j)) = bor M k k (k + 1) * d := by
    have := last_row (n := k) (M := fun i j => N i (skip k j)) fun j hj => by
      show N k (skip k j) = 0
      rw [show skip k j = j from if_pos hj, n0]
      exact bor_low M hj
    rw [this]
    show N k (skip k k) * _ = _
    rw [show skip k k = k + 1 from if_neg (by omega), n0, ← hk]
    congr 1
    exact det_congr fun i j hi hj => by rw [show skip k j = j from if_pos hj]
  have g2 : (det (k + 1) fun i j => N i (skip (k + 1) j)) = bor M k k k * d := by
    have e : (det (k + 1) fun i j => N i (skip (k + 1) j)) = det (k + 1) N := det_congr fun i j hi hj => by rw [show skip (k + 1) j = j from if_pos hj]
    rw [e, last_row fun j hj => by rw [n0]; exact bor_low M hj, n0, hk]
  have h3 : det (k + 2) N = (bor M k k k * bor M k (k + 1) (k + 1) - bor M k k (k + 1) * bor M k (k + 1) k) * d := by
    simp only [det]
    rw [sumI, sumI, sumI_congr (g := fun _ => 0) k fun j hj => by rw [n1, bor_low M hj]; simp, sumI_zero]
    have s1 : sg (k + 1 + k) = -1 := if_neg (by omega)
    have s2 : sg (k + 1 + (k + 1)) = 1 := if_pos (by omega)
    have g1' := g1
    have g2' := g2
    simp only [det] at g1' g2'
    rw [s1, s2, g1', g2', n1, n1]
    grind
  rw [h3] at h2
  rw [hdd] at hd
  have : d * (d * det (k + 2) M) = d * (bor M k k k * bor M k (k + 1) (k + 1) - bor M k k (k + 1) * bor M k (k + 1) k) := by grind
  rw [hdd]
  exact Int.eq_of_mul_eq_mul_left hd this
/-- Bordered minors of bordered minors. -/
theorem jacobi_at {k i j : Nat} {M : Mx} (hd : det k M ≠ 0) : det k M * bor M (k + 1) i j = bor M k k k * bor M k i j - bor M k k j * bor M k i k := by
  obtain ⟨A, hA⟩ : ∃ A : Mx, (fun a b => M (if a = k + 1 then i else a) (if b = k + 1 then j else b)) = A := ⟨_, rfl⟩
  have e0 : det k A = det k M := by rw [← hA]; exact det_congr fun a b ha hb => by show M (if a = k + 1 then i else a) (if b = k + 1 then j else b) = _; rw [if_neg (by omega), if_neg (by omega)]
  have h := jacobi (M := A) (k := k) (by rw [e0]; exact hd)
  rw [e0] at h
  have eb : ∀ r c, r ≤ k + 1 → c ≤ k + 1 → k ≤ r → k ≤ c → bor A k r c = bor M k (if r = k + 1 then i else r) (if c = k + 1 then j else c) := fun r c hr hc hr' hc' => by
    unfold bor
    refine det_congr fun a b ha hb => ?_
    rw [← hA]
    show M (if (if a = k then r else a) = k + 1 then i else (if a = k then r else a)) (if (if b = k then c else b) = k + 1 then j else (if b = k then c else b)) = _
    have q1 : (if (if a = k then r else a) = k + 1 then i else (if a = k then r else a)) = if a = k then (if r = k + 1 then i else r) else a := by
      by_cases q : a = k
      · rw [if_pos q, if_pos q]
      · rw [if_neg q, if_neg q, if_neg (by omega)]
    have q2 : (if (if b = k then c else b) = k + 1 then j else (if b = k then c else b)) = if b = k then (if c = k + 1 then j else c) else b := by
      by_cases q : b = k
      · rw [if_pos q, if_pos q]
      · rw [if_neg q, if_neg q, if_neg (by omega)]
    rw [q1, q2]
  rw [eb k k (by omega) (by omega) (by omega) (by omega), eb (k + 1) (k + 1) (by omega) (by omega) (by omega) (by omega), eb k (k + 1) (by omega) (by omega) (by omega) (by omega), eb (k + 1) k (by omega) (by omega) (by omega) (by omega), if_neg (by omega), if_neg (by omega), if_pos rfl, if_pos rfl] at h
  rw [← h]
  congr 1
  unfold bor
  rw [← hA]
/-- The coefficients of a bordered minor, by its row. -/
def cofc (M : Mx) (k c t : Nat) : Int := det (k + 1) (rowS (fun i j => M i (if j = k then c else j)) k (unit t))
theorem bor_col (M : Mx) (k r c : Nat) : bor M k r c = det k M * M r c + sumI (fun t => cofc M k c t * M r t) k := by
  have h1 := row_sum (M := fun i j => M i (if j = k then c else j)) (by omega : k < k + 1) (fun t => M r (if t = k then c else t)) unit (k + 1)
  have e1 : bor M k r c = det (k + 1) (rowS (fun i j => M i (if j = k then c else j)) k fun j => sumI (fun t => M r (if t = k then c else t) * unit t j) (k + 1)) := by
    refine det_congr fun i j hi hj => ?_
    unfold rowS
    by_cases e : i = k
    · rw [if_pos e, if_pos e]
      have : sumI (fun t => M r (if t = k then c else t) * unit t j) (k + 1) = M r (if j = k then c else j) := unit_sum (fun t => M r (if t = k then c else t)) hj
      exact this.symm
    · rw [if_neg e, if_neg e]
  rw [e1, h1]
  simp only [sumI, if_pos]
  have e2 : det (k + 1) (rowS (fun i j => M i (if j = k then c else j)) k (unit k)) = det k M := by
    rw [last_row fun j hj => by
      show (if k = k then unit k j else _) = 0
      rw [if_pos rfl]
      exact if_neg (by omega)]
    show (if k = k then unit k k else _) * _ = _
    rw [if_pos rfl, show unit k k = 1 from if_pos rfl, Int.one_mul]
    refine det_congr fun i j hi hj => ?_
    show (if i = k then _ else M i (if j = k then c else j)) = _
    rw [if_neg (by omega), if_neg (by omega)]
  rw [e2, sumI_congr (g := fun t => cofc M k c t * M r t) k fun t ht => by rw [if_neg (by omega), Int.mul_comm]; rfl, Int.mul_comm (M r c)]
  omega
theorem bor_top (M : Mx) {k r c : Nat} (hr : r < k) : bor M k r c = 0 := row_eq (by omega : r < k + 1) (by omega : k < k + 1) (by omega) fun j _ => by
  show M (if r = k then r else r) _ = M (if k = k then r else k) _
  have : (if r = k then r else r) = r := by split <;> rfl
  rw [this]
  simp
theorem col_comb {n c : Nat} {M : Mx} (hc : c < n) (d : Int) (x : Nat → Int) {m : Nat} (hm : m ≤ c) : det n (colS M c fun i => d * M i c + sumI (fun t => x t * M i t) m) = d * det n M := by
  have h1 := col_lin (M := M) d 1 (fun i => M i c) (fun i => sumI (fun t => x t * M i t) m) hc
  rw [colS_self, col_sum hc x (fun t i => M i t) m] at h1
  have hz : sumI (fun t => x t * det n (colS M c fun i => M i t)) m = 0 := by
    rw [sumI_congr (g := fun _ => 0) m fun t ht => ?_, sumI_zero]
    have : det n (colS M c fun i => M i t) = 0 := col_eq hc (by omega : t < n) (by omega) fun i _ => by
      show (if c = c then M i t else _) = if t = c then _ else M i t
      rw [if_pos rfl, if_neg (by omega)]
    rw [this, Int.mul_zero]
  rw [hz] at h1
  simpa using h1
/-- Where all the bordered minors in one column are 0. -/
theorem det_zero {n k : Nat} {M : Mx} (hk : k < n) (hd : det k M ≠ 0) (h : ∀ i, k ≤ i → i < n → bor M k i k = 0) : det n M = 0 := by
  have h1 := col_comb (M := M) hk (det k M) (cofc M k k) (Nat.le_refl k)
  have h2 : det n (colS M k fun i => det k M * M i k + sumI (fun t => cofc M k k t * M i t) k) = 0 := col_zero hk fun i hi => by
    show (if k = k then _ else _) = 0
    rw [if_pos rfl]
    show det k M * M i k + sumI (fun t => cofc M k k t * M i t) k = 0
    rw [← bor_col M k i k]
    rcases Nat.lt_or_ge i k with q | q
    · exact bor_top M q
    · exact h i q hi
  rw [h2] at h1
  rcases Int.mul_eq_zero.1 h1.symm with q | q
  · exact absurd q hd
  · exact q
/-- What the program's elimination holds: bordered minors. -/
theorem st_bor {n : Nat} {f : Mx} : ∀ k, k ≤ n → detTo n f k ≠ 0 → detTo n f k = det k f ∧ ∀ i j, k ≤ i → i < n → k ≤ j → j < n → (stD n f k).1 i j = bor f k i j
  | 0, _, _ => ⟨rfl, fun i j _ _ _ _ => by simp [stD, bor, det, sumI, sg]⟩
  | k + 1, hk, h => by
    have h0 : detTo n f k ≠ 0 := fun q => h (detTo_zero q (k + 1) (by omega))
    obtain ⟨h1, h2⟩ := st_bor k (by omega) h0
    have h3 : detTo n f (k + 1) = (stD n f k).1 k k := by
      show (if detTo n f k = 0 then 0 else (stD n f k).1 k k) = _
      rw [if_neg h0]
    refine ⟨by rw [h3, h2 k k (by omega) (by omega) (by omega) (by omega), bor_self], fun i j a1 a2 a3 a4 => ?_⟩
    show elimD n k (stD n f k).2 (stD n f k).1 i j = _
    unfold elimD
    rw [if_pos (by omega), detTo_last h0, h2 i j (by omega) a2 (by omega) a4, h2 k k (by omega) (by omega) (by omega) (by omega), h2 i k (by omega) a2 (by omega) (by omega), h2 k j (by omega) (by omega) (by omega) a4, h1]
    have hd : det k f ≠ 0 := by rw [← h1]; exact h0
    have hj := jacobi_at (i := i) (j := j) hd
    have e : bor f k i j * bor f k k k - bor f k i k * bor f k k j = det k f * bor f (k + 1) i j := by rw [hj]; grind
    rw [e]
    exact Int.mul_tdiv_cancel_left _ hd
theorem bareiss {n : Nat} {f : Mx} (hdom : ∀ k, k ≤ n → detTo n f k ≠ 0 → Dom n k (stD n f k).1) : detD n f = det n f := by
  have key : ∀ k, k ≤ n → detTo n f k = 0 → det n f = 0 := by
    intro k
    induction k with
    | zero => intro _ h; exact absurd (show (1 : Int) = 0 from h) (by decide)
    | succ k ih =>
      intro hk h
      by_cases h0 : detTo n f k = 0
      · exact ih (by omega) h0
      · obtain ⟨h1, h2⟩ := st_bor k (by omega) h0
        have h3 : (stD n f k).1 k k = 0 := by
          have : detTo n f (k + 1) = (stD n f k).1 k k := by
            show (if detTo n f k = 0 then 0 else (stD n f k).1 k k) = _
            rw [if_neg h0]
          rw [← this, h]
        refine det_zero (k := k) (by omega) (by rw [← h1]; exact h0) fun i q1 q2 => ?_
        rw [← h2 i k q1 q2 (Nat.le_refl _) (by omega)]
        exact (hdom k (by omega) h0).zero (by omega) h3 i q1 q2
  by_cases h : detTo n f n = 0
  · rw [key n (Nat.le_refl _) h]
    exact h
  · exact (st_bor n (Nat.le_refl _) h).1
end Go.Proofs.Ytabgcpoaepafjaa
