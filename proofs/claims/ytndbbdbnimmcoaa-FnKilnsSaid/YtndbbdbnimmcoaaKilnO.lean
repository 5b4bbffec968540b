/- Plain law on the order of firing: insertion from the right, on lists and on arrays. No condition. -/
import Derived.Test.YtndbbdbnimmcoaaKilnQ
import Derived.Sort.Defs
set_option linter.unusedSimpArgs false
set_option linter.unusedVariables false
namespace Go.Proofs.Ytndbbdbnimmcoaa

/-- How two panes are compared. -/
def cmpF (L : List Q3') (x y : Nat) : Int := if (paneAt L x).1 = (paneAt L y).1 then (paneAt L x).2.1 - (paneAt L y).2.1 else (paneAt L y).1 - (paneAt L x).1
def ltF (L : List Q3') (x y : Nat) : Bool := decide (cmpF L x y < 0)
/-- v is put into a list that is turned round: behind all that it is not less than. -/
def insR {α : Type} (lt : α → α → Bool) (v : α) : List α → List α
  | [] => [v]
  | x :: t => if lt v x then x :: insR lt v t else v :: x :: t
theorem insR_length {α : Type} (lt : α → α → Bool) (v : α) : ∀ r, (insR lt v r).length = r.length + 1
  | [] => rfl
  | x :: t => by
    simp only [insR]
    split <;> simp [insR_length lt v t]
theorem insR_perm {α : Type} (lt : α → α → Bool) (v : α) : ∀ r, (insR lt v r).Perm (v :: r)
  | [] => .refl _
  | x :: t => by
    simp only [insR]
    split
    · exact ((insR_perm lt v t).cons x).trans (.swap _ _ _)
    · exact .refl _
theorem insR_map {α β : Type} {lt : α → α → Bool} {lt' : β → β → Bool} {f : α → β} (h : ∀ x y, lt x y = lt' (f x) (f y)) (v : α) : ∀ r, (insR lt v r).map f = insR lt' (f v) (r.map f)
  | [] => rfl
  | x :: t => by
    simp only [insR, List.map_cons, ← h]
    split <;> simp [insR_map h v t]
def insAll {α : Type} (lt : α → α → Bool) (l r : List α) : List α := l.foldl (fun r v => insR lt v r) r
theorem insAll_map {α β : Type} {lt : α → α → Bool} {lt' : β → β → Bool} {f : α → β} (h : ∀ x y, lt x y = lt' (f x) (f y)) : ∀ l r, (insAll lt l r).map f = insAll lt' (l.map f) (r.map f)
  | [], r => rfl
  | v :: l, r => by
    show (insAll lt l (insR lt v r)).map f = insAll lt' (l.map f) (insR lt' (f v) (r.map f))
    rw [insAll_map h l, insR_map h]
def orderR (L : List Q3') (n : Nat) : List Nat := insAll (ltF L) (List.range n) []
theorem orderR_succ (L : List Q3') (n : Nat) : orderR L (n + 1) = insR (ltF L) n (orderR L n) := by
  unfold orderR insAll
  rw [List.range_succ, List.foldl_append]
  rfl
theorem orderR_length (L : List Q3') : ∀ n, (orderR L n).length = n
  | 0 => rfl
  | n + 1 => by rw [orderR_succ, insR_length, orderR_length L n]
theorem orderR_perm (L : List Q3') : ∀ n, (orderR L n).Perm (List.range n)
  | 0 => .refl _
  | n + 1 => by
    rw [orderR_succ, List.range_succ]
    exact (insR_perm _ _ _).trans (((orderR_perm L n).cons n).trans (List.perm_append_comm (l₁ := [n])))
/-- The order of firing. -/
def order (L : List Q3') (n : Nat) : List Nat := (orderR L n).reverse
theorem order_length (L : List Q3') (n : Nat) : (order L n).length = n := by rw [order, List.length_reverse, orderR_length]
theorem order_lt {L : List Q3'} {n x : Nat} (h : x ∈ order L n) : x < n := by
  have := (orderR_perm L n).mem_iff.1 (List.mem_reverse.1 h)
  simpa using this
section
variable {α : Type} [Inhabited α] (lt : α → α → Bool)
theorem get_bang {l : List α} {i : Nat} {x : α} (h : l[i]? = some x) : (l.toArray)[i]! = x := by
  simp [getElem!_def, h]
theorem insInner_list (v : α) : ∀ (r rest : List α), Sort.insInner lt 0 r.length (r.reverse ++ v :: rest).toArray = ((insR lt v r).reverse ++ rest).toArray
  | [], rest => rfl
  | x :: t, rest => by
    have e : (x :: t).reverse ++ v :: rest = t.reverse ++ x :: v :: rest := by simp
    have h1 : (t.reverse ++ x :: v :: rest)[t.length]? = some x := by
      rw [List.getElem?_append_right (by simp)]
      simp
    have h2 : (t.reverse ++ x :: v :: rest)[t.length + 1]? = some v := by
      rw [List.getElem?_append_right (by simp)]
      simp
    rw [e]
    show Sort.insInner lt 0 (t.length + 1) _ = _
    unfold Sort.insInner
    rw [get_bang h1, get_bang h2]
    by_cases hlt : lt v x = true
    · rw [if_pos (by simp [hlt])]
      have e2 : Sort.swp (t.reverse ++ x :: v :: rest).toArray (t.length + 1) t.length = (t.reverse ++ v :: x :: rest).toArray := by
        unfold Sort.swp
        rw [get_bang h1, get_bang h2]
        simp only [List.setIfInBounds_toArray]
        congr 1
        rw [List.set_append_right _ _ (by simp), List.set_append_right _ _ (by simp)]
        simp
      rw [e2, insInner_list v t (x :: rest)]
      simp only [insR, hlt, if_true, List.reverse_cons, List.append_assoc, List.cons_append, List.nil_append]
    · have hf : lt v x = false := by simpa using hlt
      rw [if_neg (by simp [hf])]
      simp [insR, hf]
theorem insOuter_list : ∀ (l r : List α), 0 < r.length → Sort.insOuter lt 0 (r.length + l.length) r.length (r.reverse ++ l).toArray = (insAll lt l r).reverse.toArray
  | [], r, h => by
    unfold Sort.insOuter
    rw [if_neg (by simp)]
    simp [insAll]
  | v :: l, r, h => by
    unfold Sort.insOuter
    rw [if_pos (by simp), insInner_list lt v r l]
    have := insOuter_list l (insR lt v r) (by rw [insR_length]; omega)
    rw [insR_length] at this
    have e : r.length + (v :: l).length = r.length + 1 + l.length := by simp; omega
    rw [e]
    exact this
theorem insertionSort_list (l : List α) : Sort.insertionSort lt l.toArray 0 l.length = (insAll lt l []).reverse.toArray := by
  unfold Sort.insertionSort
  cases l with
  | nil =>
    unfold Sort.insOuter
    simp [insAll]
  | cons x t =>
    have := insOuter_list lt t [x] (by simp)
    simp only [List.length_cons, List.length_nil, List.reverse_cons, List.reverse_nil, List.nil_append, List.cons_append] at this
    rw [List.length_cons, Nat.add_comm]
    exact this
end
/-- One step of the insertion of k into the first m places. -/
theorem ins_go {L : List Q3'} {k : Nat} {S : List Nat} {m : Nat} (hm : m + 1 ≤ S.length) (h : insR (ltF L) k S.reverse = (S.drop (m + 1)).reverse ++ insR (ltF L) k (S.take (m + 1)).reverse) (hlt : ltF L k S[m] = true) :
    insR (ltF L) k S.reverse = (S.drop m).reverse ++ insR (ltF L) k (S.take m).reverse := by
  have e1 : S.take (m + 1) = S.take m ++ [S[m]] := List.take_succ_eq_append_getElem (by omega)
  have e2 : S.drop m = S[m] :: S.drop (m + 1) := List.drop_eq_getElem_cons (by omega)
  rw [h, e1, e2]
  simp only [insR, hlt, if_true, List.reverse_append, List.reverse_cons, List.reverse_nil, List.nil_append, List.cons_append, List.append_assoc]
theorem ins_stop {L : List Q3'} {k : Nat} {S : List Nat} {m : Nat} (hm : m ≤ S.length) (h : insR (ltF L) k S.reverse = (S.drop m).reverse ++ insR (ltF L) k (S.take m).reverse) (hlt : ∀ (h0 : 0 < m), ltF L k (S[m - 1]'(by omega)) = false) :
    (insR (ltF L) k S.reverse).reverse = S.take m ++ k :: S.drop m := by
  have e : insR (ltF L) k (S.take m).reverse = k :: (S.take m).reverse := by
    cases m with
    | zero => simp [insR]
    | succ j =>
      have e1 : S.take (j + 1) = S.take j ++ [S[j]] := List.take_succ_eq_append_getElem (by omega)
      have := hlt (by omega)
      rw [e1]
      simp only [Nat.add_sub_cancel] at this
      simp only [insR, this, List.reverse_append, List.reverse_cons, List.reverse_nil, List.nil_append, List.cons_append, Bool.false_eq_true, if_false]
  rw [h, e]
  simp
end Go.Proofs.Ytndbbdbnimmcoaa
