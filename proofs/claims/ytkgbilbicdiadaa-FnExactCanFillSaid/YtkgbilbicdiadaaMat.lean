/- Words for a table of numbers in memory: a row of headers and a block for each row, all the call's own. No condition. -/
import Derived.Test.YtkgbilbicdiadaaMem
set_option linter.unusedSimpArgs false
set_option linter.unusedVariables false
namespace Go.Proofs.Ytkgbilbicdiadaa
open Go.RowKit

/-- The table f with one place changed. -/
def upd (f : Nat → Nat → Int) (i j : Nat) (v : Int) : Nat → Nat → Int := fun a b => if a = i ∧ b = j then v else f a b
theorem upd_same (f : Nat → Nat → Int) (i j : Nat) (v : Int) : upd f i j v i j = v := by simp [upd]
theorem upd_ne (f : Nat → Nat → Int) (i j : Nat) (v : Int) {a b : Nat} (h : a ≠ i ∨ b ≠ j) : upd f i j v a b = f a b := by
  unfold upd
  rw [if_neg (by omega)]
/-- Block g has the cells cs, none of them frozen. -/
def Blk (w : World) (g : Nat) (T : TypeId) (cs : List Value) : Prop := w.heap[g]? = some (.cells cs.toArray T (0, 0))
section
variable {w w' : World} {g : Nat} {T : TypeId} {cs : List Value}
theorem Blk.lt (h : Blk w g T cs) : g < w.heap.size := by
  rcases Nat.lt_or_ge g w.heap.size with hlt | hge
  · exact hlt
  · have : w.heap[g]? = none := Array.getElem?_eq_none hge
    unfold Blk at h
    rw [this] at h
    cases h
theorem Blk.ext (h : Blk w g T cs) (hE : Ext w w') : Blk w' g T cs := (hE.block g h.lt).trans h
theorem Blk.grown {row : Option Nat} (h : Blk w g T cs) (hg : w.grownBy w' row) (hne : row ≠ some g) : Blk w' g T cs := (hg.block g h.lt (fun e => hne e.symm)).trans h
theorem Blk.cell (h : Blk w g T cs) (i : Nat) : w.cell? ⟨g, i, none⟩ = cs[i]? := by
  simp only [World.cell?]
  rw [h]
  simp
theorem Blk.free (h : Blk w g T cs) (i : Nat) : w.frozen? ⟨g, i, none⟩ = false := by
  simp only [World.frozen?]
  rw [h]
  simp
theorem Blk.set (h : Blk w g T cs) (i : Nat) (u : Value) : Blk (w.setCell ⟨g, i, none⟩ u) g T (cs.set i u) := by
  have := heap_setCell_same w g i cs.toArray T u h
  simpa [Blk] using this
theorem Blk.other (h : Blk w g T cs) {k i : Nat} (hne : g ≠ k) (u : Value) : Blk (w.setCell ⟨k, i, none⟩ u) g T cs := (Below.heap_setCell _ _ _ _ hne).trans h
theorem Blk.new (w : World) (T : TypeId) (cs : List Value) : Blk (w.alloc (.cells cs.toArray T)) w.heap.size T cs := heap_alloc_new w _
theorem Blk.of_own {base n sz cap : Nat} {xs : List Value} (h : w.ownsRow base T sz (.slice (some ⟨g, 0, none⟩) n cap) n xs) : ∃ cs, Blk w g T cs ∧ cs.take (n * sz) = xs ∧ cs.length = cap * sz ∧ base ≤ g := by
  rcases h.2 with ⟨hv, _⟩ | ⟨g', cap', cur, hv, hbb, hh, _, _, hcs, htake⟩
  · cases hv
  · injection hv with hv _ hc
    injection hv with hv
    injection hv with hv _ _
    subst hv hc
    exact ⟨cur.toList, by simpa [Blk] using hh, htake, by simpa using hcs, hbb⟩
theorem Blk.of_full {base n sz : Nat} {xs : List Value} (h : w.ownsRow base T sz (.slice (some ⟨g, 0, none⟩) n n) n xs) : Blk w g T xs := by
  obtain ⟨cs, h1, h2, h3, _⟩ := Blk.of_own h
  rw [List.take_of_length_le (by omega)] at h2
  rw [← h2]
  exact h1
end
/-- A row of numbers. -/
def rowOf (n : Nat) (f : Nat → Int) : List Value := (List.range n).map fun j => Value.int .i64 (f j)
theorem rowOf_get {n j : Nat} (f : Nat → Int) (h : j < n) : (rowOf n f)[j]? = some (.int .i64 (f j)) := by simp [rowOf, h]
theorem rowOf_length (n : Nat) (f : Nat → Int) : (rowOf n f).length = n := by simp [rowOf]
theorem rowOf_set {n j : Nat} (f : Nat → Int) (v : Int) (h : j < n) : (rowOf n f).set j (.int .i64 v) = rowOf n (fun k => if k = j then v else f k) := by
  apply List.ext_getElem?
  intro k
  by_cases hk : k = j
  · subst hk
    rw [List.getElem?_set_self (by rw [rowOf_length]; exact h), rowOf_get _ h]
    simp
  · rw [List.getElem?_set_ne (fun e => hk e.symm)]
    by_cases hkn : k < n
    · rw [rowOf_get _ hkn, rowOf_get _ hkn]
      simp [hk]
    · rw [List.getElem?_eq_none (by rw [rowOf_length]; omega), List.getElem?_eq_none (by rw [rowOf_length]; omega)]
theorem rowOf_zero (n : Nat) : List.replicate n (Value.int .i64 0) = rowOf n (fun _ => 0) := by
  apply List.ext_getElem?
  intro k
  by_cases hkn : k < n
  · rw [rowOf_get _ hkn]
    simp [hkn]
  · rw [List.getElem?_eq_none (by simp; omega), List.getElem?_eq_none (by rw [rowOf_length]; omega)]
/-- Block hd holds M headers at least; the first m rows, of n numbers each, read as f. -/
def Mat (w : World) (B hd M m n : Nat) (Th Te : TypeId) (f : Nat → Nat → Int) : Prop :=
  ∃ (G : Nat → Nat) (hs : List Value), B ≤ hd ∧ Blk w hd Th hs ∧ M ≤ hs.length ∧ m ≤ M ∧ (∀ i, i < m → hs[i]? = some (.slice (some ⟨G i, 0, none⟩) n n) ∧ B ≤ G i ∧ G i ≠ hd ∧ Blk w (G i) Te (rowOf n (f i))) ∧ (∀ i j, i < m → j < m → G i = G j → i = j)
section
variable {w w' : World} {B hd M m n : Nat} {Th Te : TypeId} {f f' : Nat → Nat → Int}
theorem Mat.ext (h : Mat w B hd M m n Th Te f) (hE : Ext w w') : Mat w' B hd M m n Th Te f := by
  obtain ⟨G, hs, h1, h2, h3, h4, h5, h6⟩ := h
  exact ⟨G, hs, h1, h2.ext hE, h3, h4, fun i hi => ⟨(h5 i hi).1, (h5 i hi).2.1, (h5 i hi).2.2.1, (h5 i hi).2.2.2.ext hE⟩, h6⟩
theorem Mat.congr (h : Mat w B hd M m n Th Te f) (hf : ∀ i j, i < m → j < n → f i j = f' i j) : Mat w B hd M m n Th Te f' := by
  obtain ⟨G, hs, h1, h2, h3, h4, h5, h6⟩ := h
  refine ⟨G, hs, h1, h2, h3, h4, fun i hi => ⟨(h5 i hi).1, (h5 i hi).2.1, (h5 i hi).2.2.1, ?_⟩, h6⟩
  have e : rowOf n (f i) = rowOf n (f' i) := by
    unfold rowOf
    apply List.map_congr_left
    intro j hj
    rw [hf i j hi (List.mem_range.1 hj)]
  rw [← e]
  exact (h5 i hi).2.2.2
theorem Mat.lt (h : Mat w B hd M m n Th Te f) : B ≤ hd ∧ hd < w.heap.size := by
  obtain ⟨G, hs, h1, h2, _⟩ := h
  exact ⟨h1, h2.lt⟩
/-- A place of the table: its header, its cell, and what a store there leaves. -/
theorem Mat.at_ (h : Mat w B hd M m n Th Te f) {i j : Nat} (hi : i < m) (hj : j < n) : ∃ g, w.cell? ⟨hd, i, none⟩ = some (.slice (some ⟨g, 0, none⟩) n n) ∧ w.cell? ⟨g, j, none⟩ = some (.int .i64 (f i j)) ∧ w.frozen? ⟨g, j, none⟩ = false ∧
    B ≤ g ∧ g < w.heap.size ∧ ∀ v, Mat (w.setCell ⟨g, j, none⟩ (.int .i64 v)) B hd M m n Th Te (upd f i j v) := by
  obtain ⟨G, hs, h1, h2, h3, h4, h5, h6⟩ := h
  obtain ⟨e1, e2, e3, e4⟩ := h5 i hi
  refine ⟨G i, by rw [h2.cell, e1], by rw [e4.cell, rowOf_get _ hj], e4.free _, e2, e4.lt, fun v => ?_⟩
  refine ⟨G, hs, h1, h2.other (fun e => e3 e.symm) _, h3, h4, fun k hk => ⟨(h5 k hk).1, (h5 k hk).2.1, (h5 k hk).2.2.1, ?_⟩, h6⟩
  by_cases hki : k = i
  · subst hki
    have := e4.set j (.int .i64 v)
    rw [rowOf_set _ _ hj] at this
    have e : (fun b => if b = j then v else f k b) = upd f k j v k := by
      funext b
      simp [upd]
    rw [← e]
    exact this
  · have e : f k = upd f i j v k := by
      funext b
      rw [upd_ne _ _ _ _ (.inl hki)]
    rw [← e]
    exact (h5 k hk).2.2.2.other (fun e => hki (h6 k i hk hi e)) _
/-- A row of headers without rows. -/
theorem Mat.start (hs : List Value) (hb : B ≤ hd) (h : Blk w hd Th hs) (hM : M ≤ hs.length) : Mat w B hd M 0 n Th Te f :=
  ⟨fun _ => 0, hs, hb, h, hM, Nat.zero_le _, fun i hi => absurd hi (Nat.not_lt_zero i), fun i _ hi => absurd hi (Nat.not_lt_zero i)⟩
/-- A row of zeros more. -/
theorem Mat.row (h : Mat w B hd M m n Th Te f) (hm : m < M) (hB : B ≤ w.heap.size) (hE : Ext w w') (hb : Blk w' w.heap.size Te (List.replicate n (Value.int .i64 0))) (hf : ∀ i j, i < m → f' i j = f i j) (hf0 : ∀ j, f' m j = 0) :
    Mat (w'.setCell ⟨hd, m, none⟩ (.slice (some ⟨w.heap.size, 0, none⟩) n n)) B hd M (m + 1) n Th Te f' := by
  obtain ⟨G, hs, h1, h2, h3, h4, h5, h6⟩ := h
  have hlt : ∀ i, i < m → G i < w.heap.size := fun i hi => (h5 i hi).2.2.2.lt
  have hdl := h2.lt
  refine ⟨fun i => if i = m then w.heap.size else G i, hs.set m (.slice (some ⟨w.heap.size, 0, none⟩) n n), h1, (h2.ext hE).set _ _, by simpa using h3, hm, fun i hi => ?_, fun i j hi hj e => ?_⟩
  · by_cases him : i = m
    · subst him
      have e : rowOf n (f' i) = List.replicate n (Value.int .i64 0) := by
        rw [rowOf_zero]
        congr 1
        funext j
        exact hf0 j
      refine ⟨by rw [List.getElem?_set_self (by omega)]; simp, by simpa using hB, by simp only [if_true]; omega, ?_⟩
      simp only [if_true]
      rw [e]
      exact hb.other (by omega) _
    · obtain ⟨e1, e2, e3, e4⟩ := h5 i (by omega)
      have e : f' i = f i := by
        funext j
        exact hf i j (by omega)
      simp only [him, if_false]
      refine ⟨by rw [List.getElem?_set_ne (fun e => him e.symm)]; exact e1, e2, e3, ?_⟩
      rw [e]
      exact (e4.ext hE).other e3 _
  · have hi' := hlt i
    have hj' := hlt j
    have hG := h6 i j
    by_cases him : i = m <;> by_cases hjm : j = m <;> simp [him, hjm] at e <;> omega
/-- The cell of a header that is still to come. -/
theorem Mat.header (h : Mat w B hd M m n Th Te f) {i : Nat} (hi : i < M) : (∃ v, w.cell? ⟨hd, i, none⟩ = some v) ∧ w.frozen? ⟨hd, i, none⟩ = false := by
  obtain ⟨G, hs, h1, h2, h3, h4, h5, h6⟩ := h
  exact ⟨⟨hs[i], by rw [h2.cell]; simp⟩, h2.free _⟩
end
end Go.Proofs.Ytkgbilbicdiadaa
