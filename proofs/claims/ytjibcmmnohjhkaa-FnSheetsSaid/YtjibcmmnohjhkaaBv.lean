/- Plain law on the best value of rectangles (no program in sight): its table, its bounds, one piece alone. No condition. -/
namespace Go.Proofs.Ytjibcmmnohjhkaa

abbrev Q2 := Int × Int
/-- The greatest of n and g 1, .., g k. -/
def upMax (g : Nat → Int) (n : Int) : Nat → Int
  | 0 => n
  | k + 1 => max (upMax g n k) (g (k + 1))
theorem upMax_le {g : Nat → Int} {n b : Int} : ∀ {k : Nat}, n ≤ b → (∀ c, 1 ≤ c → c ≤ k → g c ≤ b) → upMax g n k ≤ b
  | 0, h, _ => h
  | k + 1, h, hg => by
    have h1 := upMax_le (k := k) h (fun c h1 h2 => hg c h1 (by omega))
    have h2 := hg (k + 1) (by omega) (Nat.le_refl _)
    simp only [upMax]
    omega
theorem le_upMax {g : Nat → Int} {n : Int} : ∀ (k : Nat), n ≤ upMax g n k
  | 0 => Int.le_refl _
  | k + 1 => by have := le_upMax (g := g) (n := n) k; simp only [upMax]; omega
theorem at_upMax {g : Nat → Int} {n : Int} : ∀ {k c : Nat}, 1 ≤ c → c ≤ k → g c ≤ upMax g n k
  | 0, c, h1, h2 => by omega
  | k + 1, c, h1, h2 => by
    simp only [upMax]
    by_cases h : c = k + 1
    · subst h; omega
    · have := at_upMax (g := g) (n := n) (k := k) h1 (by omega); omega
theorem upMax_congr {g g' : Nat → Int} {n : Int} : ∀ {k : Nat}, (∀ c, 1 ≤ c → c ≤ k → g c = g' c) → upMax g n k = upMax g' n k
  | 0, _ => rfl
  | k + 1, h => by simp only [upMax]; rw [upMax_congr (k := k) (fun c h1 h2 => h c h1 (by omega)), h (k + 1) (by omega) (Nat.le_refl _)]
theorem upMax_mono {g g' : Nat → Int} {n n' : Int} : ∀ {k : Nat}, n ≤ n' → (∀ c, 1 ≤ c → c ≤ k → g c ≤ g' c) → upMax g n k ≤ upMax g' n' k
  | 0, h, _ => h
  | k + 1, h, hg => by
    have h1 := upMax_mono (k := k) h (fun c h1 h2 => hg c h1 (by omega))
    have h2 := hg (k + 1) (by omega) (Nat.le_refl _)
    simp only [upMax]
    omega

/-- The best single piece that fits. -/
def piecesTo (l : List Q2) (vs : List Int) (a b : Int) : Nat → Int
  | 0 => 0
  | k + 1 => match l[k]?, vs[k]? with
    | some p, some v => if p.1 ≤ a ∧ p.2 ≤ b then max (piecesTo l vs a b k) v else piecesTo l vs a b k
    | _, _ => piecesTo l vs a b k
def pieceMax (l : List Q2) (vs : List Int) (a b : Int) : Int := piecesTo l vs a b l.length
theorem piecesTo_nonneg (l : List Q2) (vs : List Int) (a b : Int) : ∀ k, 0 ≤ piecesTo l vs a b k
  | 0 => Int.le_refl _
  | k + 1 => by
    have := piecesTo_nonneg l vs a b k
    simp only [piecesTo]
    split
    · split <;> omega
    · exact this
def bvF (l : List Q2) (vs : List Int) : Nat → Nat → Nat → Int
  | 0, _, _ => 0
  | f + 1, a, b => upMax (fun c => bvF l vs f a c + bvF l vs f a (b - c)) (upMax (fun c => bvF l vs f c b + bvF l vs f (a - c) b) (pieceMax l vs a b) (a / 2)) (b / 2)
theorem bvF_stable (l : List Q2) (vs : List Int) : ∀ (f f' a b : Nat), a + b < f → a + b < f' → bvF l vs f a b = bvF l vs f' a b
  | 0, _, _, _, h, _ => by omega
  | _ + 1, 0, _, _, _, h => by omega
  | f + 1, f' + 1, a, b, h, h' => by
    simp only [bvF]
    have e : upMax (fun c => bvF l vs f c b + bvF l vs f (a - c) b) (pieceMax l vs a b) (a / 2) = upMax (fun c => bvF l vs f' c b + bvF l vs f' (a - c) b) (pieceMax l vs a b) (a / 2) :=
      upMax_congr (fun c h1 h2 => by rw [bvF_stable l vs f f' c b (by omega) (by omega), bvF_stable l vs f f' (a - c) b (by omega) (by omega)])
    rw [e]
    exact upMax_congr (fun c h1 h2 => by rw [bvF_stable l vs f f' a c (by omega) (by omega), bvF_stable l vs f f' a (b - c) (by omega) (by omega)])
/-- The best value of a rectangle. -/
def bv (l : List Q2) (vs : List Int) (a b : Nat) : Int := bvF l vs (a + b + 1) a b
/-- The value after the pieces and the first c cuts across. -/
def bvW (l : List Q2) (vs : List Int) (a b c : Nat) : Int := upMax (fun c => bv l vs c b + bv l vs (a - c) b) (pieceMax l vs a b) c
/-- The value after the pieces, all cuts across and the first c cuts along. -/
def bvH (l : List Q2) (vs : List Int) (a b c : Nat) : Int := upMax (fun c => bv l vs a c + bv l vs a (b - c)) (bvW l vs a b (a / 2)) c
theorem bv_eq (l : List Q2) (vs : List Int) (a b : Nat) : bv l vs a b = bvH l vs a b (b / 2) := by
  show bvF l vs (a + b + 1) a b = _
  rw [bvF]
  unfold bvH bvW
  have e : upMax (fun c => bvF l vs (a + b) c b + bvF l vs (a + b) (a - c) b) (pieceMax l vs a b) (a / 2) = upMax (fun c => bv l vs c b + bv l vs (a - c) b) (pieceMax l vs a b) (a / 2) :=
    upMax_congr (fun c h1 h2 => by unfold bv; rw [bvF_stable l vs (a + b) (c + b + 1) c b (by omega) (by omega), bvF_stable l vs (a + b) (a - c + b + 1) (a - c) b (by omega) (by omega)])
  rw [e]
  exact upMax_congr (fun c h1 h2 => by unfold bv; rw [bvF_stable l vs (a + b) (a + c + 1) a c (by omega) (by omega), bvF_stable l vs (a + b) (a + (b - c) + 1) a (b - c) (by omega) (by omega)])
theorem bvW_succ (l : List Q2) (vs : List Int) (a b c : Nat) : bvW l vs a b (c + 1) = max (bvW l vs a b c) (bv l vs (c + 1) b + bv l vs (a - (c + 1)) b) := rfl
theorem bvH_succ (l : List Q2) (vs : List Int) (a b c : Nat) : bvH l vs a b (c + 1) = max (bvH l vs a b c) (bv l vs a (c + 1) + bv l vs a (b - (c + 1))) := rfl
/-- All pieces are proper and no value is above M or below 0. -/
def goodPieces (l : List Q2) (vs : List Int) (M : Int) : Prop := l.length = vs.length ∧ (∀ p ∈ l, 1 ≤ p.1 ∧ 1 ≤ p.2) ∧ ∀ v ∈ vs, 0 ≤ v ∧ v ≤ M
theorem piecesTo_le {l : List Q2} {vs : List Int} {M : Int} (h : goodPieces l vs M) (hM : 0 ≤ M) (a b : Int) (ha : 0 ≤ a) (hb : 0 ≤ b) : ∀ k, piecesTo l vs a b k ≤ M * (a * b)
  | 0 => Int.mul_nonneg hM (Int.mul_nonneg ha hb)
  | k + 1 => by
    have ih := piecesTo_le h hM a b ha hb k
    simp only [piecesTo]
    split
    · rename_i p v hp hv
      have h1 := h.2.1 p (List.mem_of_getElem? hp)
      have h2 := h.2.2 v (List.mem_of_getElem? hv)
      split
      · rename_i hf
        have h3 : 1 ≤ a * b := by
          have : 1 * 1 ≤ a * b := Int.mul_le_mul (by omega) (by omega) (by omega) (by omega)
          omega
        have h4 : M * 1 ≤ M * (a * b) := Int.mul_le_mul_of_nonneg_left h3 hM
        omega
      · exact ih
    · exact ih
theorem bv_nonneg (l : List Q2) (vs : List Int) (a b : Nat) : 0 ≤ bv l vs a b := by
  rw [bv_eq]
  refine Int.le_trans ?_ (le_upMax _)
  refine Int.le_trans ?_ (le_upMax _)
  exact piecesTo_nonneg _ _ _ _ _
theorem bvWH_le {l : List Q2} {vs : List Int} {M : Int} (h : goodPieces l vs M) (hM : 0 ≤ M) (a b : Nat)
    (ih : ∀ a' b', a' + b' < a + b → bv l vs a' b' ≤ M * ((a' : Int) * b')) : (∀ c, c ≤ a / 2 → bvW l vs a b c ≤ M * ((a : Int) * b)) ∧ ∀ c, c ≤ b / 2 → bvH l vs a b c ≤ M * ((a : Int) * b) := by
  have hW : ∀ c, c ≤ a / 2 → bvW l vs a b c ≤ M * ((a : Int) * b) := by
    intro c hc
    refine upMax_le (piecesTo_le h hM _ _ (by omega) (by omega) _) (fun d h1 h2 => ?_)
    have e1 := ih d b (by omega)
    have e2 := ih (a - d) b (by omega)
    have e3 : M * ((d : Int) * b) + M * (((a - d : Nat) : Int) * b) = M * ((a : Int) * b) := by
      rw [← Int.mul_add, ← Int.add_mul]
      congr 2
      omega
    show bv l vs d b + bv l vs (a - d) b ≤ _
    omega
  refine ⟨hW, fun c hc => upMax_le (hW _ (Nat.le_refl _)) (fun d h1 h2 => ?_)⟩
  have e1 := ih a d (by omega)
  have e2 := ih a (b - d) (by omega)
  have e3 : M * ((a : Int) * d) + M * ((a : Int) * ((b - d : Nat) : Int)) = M * ((a : Int) * b) := by
    rw [← Int.mul_add, ← Int.mul_add]
    congr 2
    omega
  show bv l vs a d + bv l vs a (b - d) ≤ _
  omega
theorem bv_le {l : List Q2} {vs : List Int} {M : Int} (h : goodPieces l vs M) (hM : 0 ≤ M) : ∀ (n a b : Nat), a + b ≤ n → bv l vs a b ≤ M * ((a : Int) * b)
  | 0, a, b, hn => by
    obtain rfl : a = 0 := by omega
    obtain rfl : b = 0 := by omega
    rw [bv_eq]
    exact (bvWH_le h hM 0 0 (fun a' b' h' => by omega)).2 _ (Nat.le_refl _)
  | n + 1, a, b, hn => by
    rw [bv_eq]
    exact (bvWH_le h hM a b (fun a' b' h' => bv_le h hM n a' b' (by omega))).2 _ (Nat.le_refl _)
/-- Numbers that a walk meets are small. -/
theorem bv_small {l : List Q2} {vs : List Int} {M : Int} (h : goodPieces l vs M) (hM : 0 ≤ M) (hM' : M ≤ 1600) {a b : Nat} (ha : a ≤ 40) (hb : b ≤ 40) : 0 ≤ bv l vs a b ∧ bv l vs a b ≤ 2560000 := by
  refine ⟨bv_nonneg _ _ _ _, Int.le_trans (bv_le h hM (a + b) a b (Nat.le_refl _)) ?_⟩
  have h1 : (a : Int) * b ≤ 40 * 40 := Int.mul_le_mul (by omega) (by omega) (by omega) (by omega)
  have h2 : M * ((a : Int) * b) ≤ 1600 * (40 * 40) := Int.mul_le_mul hM' h1 (Int.mul_nonneg (by omega) (by omega)) (by omega)
  omega
theorem bvW_small {l : List Q2} {vs : List Int} {M : Int} (h : goodPieces l vs M) (hM : 0 ≤ M) (hM' : M ≤ 1600) {a b : Nat} (ha : a ≤ 40) (hb : b ≤ 40) {c : Nat} (hc : c ≤ a / 2) : 0 ≤ bvW l vs a b c ∧ bvW l vs a b c ≤ 2560000 := by
  refine ⟨Int.le_trans (piecesTo_nonneg _ _ _ _ _) (le_upMax _), Int.le_trans ((bvWH_le h hM a b (fun a' b' h' => bv_le h hM (a' + b') a' b' (Nat.le_refl _))).1 c hc) ?_⟩
  have h1 : (a : Int) * b ≤ 40 * 40 := Int.mul_le_mul (by omega) (by omega) (by omega) (by omega)
  have h2 : M * ((a : Int) * b) ≤ 1600 * (40 * 40) := Int.mul_le_mul hM' h1 (Int.mul_nonneg (by omega) (by omega)) (by omega)
  omega
theorem bvH_small {l : List Q2} {vs : List Int} {M : Int} (h : goodPieces l vs M) (hM : 0 ≤ M) (hM' : M ≤ 1600) {a b : Nat} (ha : a ≤ 40) (hb : b ≤ 40) {c : Nat} (hc : c ≤ b / 2) : 0 ≤ bvH l vs a b c ∧ bvH l vs a b c ≤ 2560000 := by
  refine ⟨Int.le_trans (Int.le_trans (piecesTo_nonneg _ _ _ _ _) (le_upMax _)) (le_upMax _), Int.le_trans ((bvWH_le h hM a b (fun a' b' h' => bv_le h hM (a' + b') a' b' (Nat.le_refl _))).2 c hc) ?_⟩
  have h1 : (a : Int) * b ≤ 40 * 40 := Int.mul_le_mul (by omega) (by omega) (by omega) (by omega)
  have h2 : M * ((a : Int) * b) ≤ 1600 * (40 * 40) := Int.mul_le_mul hM' h1 (Int.mul_nonneg (by omega) (by omega)) (by omega)
  omega
theorem piecesTo_zero {l : List Q2} {vs : List Int} {M : Int} (h : goodPieces l vs M) {a b : Int} (h0 : a ≤ 0 ∨ b ≤ 0) : ∀ k, piecesTo l vs a b k = 0
  | 0 => rfl
  | k + 1 => by
    simp only [piecesTo]
    split
    · rename_i p v hp hv
      have h1 := h.2.1 p (List.mem_of_getElem? hp)
      rw [if_neg (by omega), piecesTo_zero h h0 k]
    · exact piecesTo_zero h h0 k
/-- An empty rectangle is worth nothing. -/
theorem bv_zero {l : List Q2} {vs : List Int} {M : Int} (h : goodPieces l vs M) (hM : 0 ≤ M) {a b : Nat} (h0 : a = 0 ∨ b = 0) : bv l vs a b = 0 := by
  have h1 := bv_le h hM (a + b) a b (Nat.le_refl _)
  have h2 := bv_nonneg l vs a b
  have e : M * ((a : Int) * b) = 0 := by rcases h0 with rfl | rfl <;> simp
  omega
theorem piecesTo_step {l : List Q2} {vs : List Int} {k : Nat} (hl : k < l.length) (hv : k < vs.length) (a b : Int) : piecesTo l vs a b (k + 1) = if l[k].1 ≤ a ∧ l[k].2 ≤ b then max (piecesTo l vs a b k) vs[k] else piecesTo l vs a b k := by
  simp [piecesTo, List.getElem?_eq_getElem hl, List.getElem?_eq_getElem hv]
theorem piecesTo_small {l : List Q2} {vs : List Int} {M : Int} (h : goodPieces l vs M) (hM : 0 ≤ M) (a b : Int) : ∀ k, 0 ≤ piecesTo l vs a b k ∧ piecesTo l vs a b k ≤ M
  | 0 => ⟨Int.le_refl _, hM⟩
  | k + 1 => by
    have ih := piecesTo_small h hM a b k
    simp only [piecesTo]
    split
    · rename_i p v hp hv
      have h2 := h.2.2 v (List.mem_of_getElem? hv)
      split <;> omega
    · exact ih
end Go.Proofs.Ytjibcmmnohjhkaa
