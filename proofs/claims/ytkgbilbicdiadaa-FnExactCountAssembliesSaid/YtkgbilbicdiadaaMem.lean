/- Words for slices in memory: what a slice reads as ('Rds'), rows of the call's own. No condition. -/
import Derived.Test.YtkgbilbicdiadaaBase
import Derived.Laws.OwnMore
import Derived.Laws.MakeOwn
set_option linter.unusedSimpArgs false
set_option linter.unusedVariables false
namespace Go.Proofs.Ytkgbilbicdiadaa
open Go.RowKit

/-- The slice of address A and n elements (sz cells each) reads as the cells xs. -/
def Rds (w : World) (sz : Nat) (A : Option Addr) (n : Nat) (xs : List Value) : Prop :=
  xs.length = n * sz ∧ (0 < n → ∃ b off, A = some ⟨b, off, none⟩ ∧ b < w.heap.size ∧ ∀ j u, xs[j]? = some u → w.cell? ⟨b, off + j, none⟩ = some u)

section
variable {w w' : World} {sz n : Nat} {A : Option Addr} {xs : List Value}
theorem Rds.nil_ : Rds w sz none 0 [] := ⟨by simp, fun h => absurd h (by omega)⟩
theorem Rds.keep (h : Rds w sz A n xs) (hs : w.heap.size ≤ w'.heap.size) (hk : ∀ b off, A = some ⟨b, off, none⟩ → 0 < n → b < w.heap.size → w'.heap[b]? = w.heap[b]?) : Rds w' sz A n xs :=
  ⟨h.1, fun hn => by
    obtain ⟨b, off, e, hb, hc⟩ := h.2 hn
    exact ⟨b, off, e, Nat.lt_of_lt_of_le hb hs, fun j u hu => (World.cell?_of_block (hk b off e hn hb)).trans (hc j u hu)⟩⟩
theorem Rds.ext (h : Rds w sz A n xs) (hb : Ext w w') : Rds w' sz A n xs := h.keep hb.size (fun b _ _ _ hlt => hb.block b hlt)
theorem Rds.alloc (h : Rds w sz A n xs) (o : Obj) : Rds (w.alloc o) sz A n xs := h.ext ((Ext.refl w).alloc o)
theorem Rds.drew (h : Rds w sz A n xs) : Rds w.drew sz A n xs := h
theorem Rds.grown (h : Rds w sz A n xs) {row : Option Nat} (hg : w.grownBy w' row) (hr : ∀ b off, A = some ⟨b, off, none⟩ → row ≠ some b) : Rds w' sz A n xs :=
  h.keep hg.size (fun b off e _ hlt => hg.block b hlt (fun e' => hr b off e e'.symm))
theorem Rds.setk {g off k o : Nat} {s : Option Nat} (h : Rds w sz (some ⟨g, off, none⟩) n xs) (hne : g ≠ k) (u : Value) : Rds (w.setCell ⟨k, o, s⟩ u) sz (some ⟨g, off, none⟩) n xs :=
  h.keep (by simp) (fun b o' e _ _ => by
    injection e with e
    injection e with e1 _ _
    subst e1
    exact Below.heap_setCell _ _ _ _ hne)
theorem Rds.of_own {base : Nat} {e : TypeId} {c : Nat} (h : w.ownsRow base e sz (.slice A n c) n xs) : Rds w sz A n xs := by
  refine ⟨h.1, fun hn => ?_⟩
  rcases h.2 with ⟨_, h0⟩ | ⟨g, cap, cur, hv, _, hh, hnc, _, hcs, htake⟩
  · omega
  · injection hv with hA _ _
    subst hA
    have hlt : g < w.heap.size := by
      rcases Nat.lt_or_ge g w.heap.size with hlt | hge
      · exact hlt
      · rw [Array.getElem?_eq_none hge] at hh; cases hh
    refine ⟨g, 0, rfl, hlt, fun j u hu => ?_⟩
    rw [Nat.zero_add]
    have hjl : j < xs.length := (List.getElem?_eq_some_iff.1 hu).1
    rw [h.1] at hjl
    rw [← htake, List.getElem?_take_of_lt hjl] at hu
    simpa [World.cell?, hh] using hu
/-- The leading part of a slice. -/
theorem Rds.take (h : Rds w sz A n xs) {k : Nat} (hk : k ≤ n) : Rds w sz A k (xs.take (k * sz)) := by
  have hle : k * sz ≤ n * sz := Nat.mul_le_mul_right sz hk
  refine ⟨by rw [List.length_take, h.1]; omega, fun hn => ?_⟩
  obtain ⟨b, off, e, hb, hc⟩ := h.2 (by omega)
  refine ⟨b, off, e, hb, fun j u hu => hc j u ?_⟩
  rw [← hu]
  have hj : j < k * sz := by
    have := (List.getElem?_eq_some_iff.1 hu).1
    simp at this; omega
  exact (List.getElem?_take_of_lt hj).symm
end

theorem grown_ext {w w' : World} (h : w.grownBy w' none) : Ext w w' := ⟨h.os, h.tape, h.output, h.size, fun k hk => h.block k hk (by simp)⟩
theorem own_cell {w : World} {base n sz cap g : Nat} {e : TypeId} {xs : List Value} (h : w.ownsRow base e sz (.slice (some ⟨g, 0, none⟩) n cap) n xs) (j : Nat) (hj : j < n * sz) : ∃ v, w.cell? ⟨g, j, none⟩ = some v := by
  rw [h.cellAt j hj]
  have : j < xs.length := by rw [h.1]; exact hj
  exact ⟨xs[j], by simp [this]⟩
theorem Rds_new (w : World) (xs : List Value) (n sz g : Nat) (e : TypeId) (h : xs.length = n * sz) (hg : g = w.heap.size) : Rds (w.alloc (.cells xs.toArray e)) sz (some ⟨g, 0, none⟩) n xs := by
  subst hg
  refine ⟨h, fun _ => ⟨_, _, rfl, by simp, fun j u hu => ?_⟩⟩
  have hb : (w.alloc (.cells xs.toArray e)).heap[w.heap.size]? = some (.cells xs.toArray e) := heap_alloc_new w _
  simp only [World.cell?, Nat.zero_add]
  rw [hb]
  simpa using hu
/-! ### Lists of numbers, pairs and triples of numbers as cells -/
def encI (l : List Int) : List Value := l.map (.int .i64)
theorem encI_length (l : List Int) : (encI l).length = l.length := by simp [encI]
theorem encI_get (l : List Int) (k : Nat) (h : k < l.length) : (encI l)[k]? = some (.int .i64 l[k]) := by simp [encI, h]
theorem encI_append (a b : List Int) : encI (a ++ b) = encI a ++ encI b := by simp [encI]
theorem encI_one (l : List Int) : ∀ u ∈ encI l, u.oneCell' = true := ints_oneCell .i64 l

abbrev P2 := Int × Int
abbrev P3 := Int × Int × Int
def enc2 (l : List P2) : List Value := l.flatMap fun p => [.int .i64 p.1, .int .i64 p.2]
def enc3 (l : List P3) : List Value := l.flatMap fun p => [.int .i64 p.1, .int .i64 p.2.1, .int .i64 p.2.2]
theorem enc2_length (l : List P2) : (enc2 l).length = l.length * 2 := by
  unfold enc2
  induction l with
  | nil => rfl
  | cons p l ih => simp [ih]; omega
theorem enc3_length (l : List P3) : (enc3 l).length = l.length * 3 := by
  unfold enc3
  induction l with
  | nil => rfl
  | cons p l ih => simp [ih]; omega
theorem enc2_append (a b : List P2) : enc2 (a ++ b) = enc2 a ++ enc2 b := by simp [enc2]
theorem enc3_append (a b : List P3) : enc3 (a ++ b) = enc3 a ++ enc3 b := by simp [enc3]
theorem enc2_cons (p : P2) (l : List P2) : enc2 (p :: l) = .int .i64 p.1 :: .int .i64 p.2 :: enc2 l := by simp [enc2]
theorem enc3_cons (p : P3) (l : List P3) : enc3 (p :: l) = .int .i64 p.1 :: .int .i64 p.2.1 :: .int .i64 p.2.2 :: enc3 l := by simp [enc3]
theorem enc2_get (l : List P2) (k : Nat) (h : k < l.length) : (enc2 l)[k * 2]? = some (.int .i64 l[k].1) ∧ (enc2 l)[k * 2 + 1]? = some (.int .i64 l[k].2) := by
  induction l generalizing k with
  | nil => simp at h
  | cons p l ih =>
    rw [enc2_cons]
    cases k with
    | zero => simp
    | succ k =>
      have := ih k (by simpa using h)
      have e : (k + 1) * 2 = k * 2 + 1 + 1 := by omega
      rw [e]
      simpa using this
theorem enc3_get (l : List P3) (k : Nat) (h : k < l.length) : (enc3 l)[k * 3]? = some (.int .i64 l[k].1) ∧ (enc3 l)[k * 3 + 1]? = some (.int .i64 l[k].2.1) ∧ (enc3 l)[k * 3 + 2]? = some (.int .i64 l[k].2.2) := by
  induction l generalizing k with
  | nil => simp at h
  | cons p l ih =>
    rw [enc3_cons]
    cases k with
    | zero => simp
    | succ k =>
      have := ih k (by simpa using h)
      have e : (k + 1) * 3 = k * 3 + 1 + 1 + 1 := by omega
      rw [e]
      simpa using this
theorem enc2_one (l : List P2) : ∀ u ∈ enc2 l, u.oneCell' = true := by
  intro u hu
  simp only [enc2, List.mem_flatMap] at hu
  obtain ⟨a, _, hu⟩ := hu
  simp at hu
  rcases hu with rfl | rfl <;> rfl
theorem enc3_one (l : List P3) : ∀ u ∈ enc3 l, u.oneCell' = true := by
  intro u hu
  simp only [enc3, List.mem_flatMap] at hu
  obtain ⟨a, _, hu⟩ := hu
  simp at hu
  rcases hu with rfl | rfl | rfl <;> rfl

abbrev RI (w : World) (A : Option Addr) (l : List Int) : Prop := Rds w 1 A l.length (encI l)
abbrev R2 (w : World) (A : Option Addr) (l : List P2) : Prop := Rds w 2 A l.length (enc2 l)
abbrev R3 (w : World) (A : Option Addr) (l : List P3) : Prop := Rds w 3 A l.length (enc3 l)
section
variable {w : World} {A : Option Addr}
theorem RI.at_ {l : List Int} (h : Rds w 1 A l.length (encI l)) {k : Nat} (hk : k < l.length) : ∃ b off, A = some ⟨b, off, none⟩ ∧ b < w.heap.size ∧ w.cell? ⟨b, off + k, none⟩ = some (.int .i64 l[k]) := by
  obtain ⟨b, off, e, hb, hc⟩ := h.2 (by omega)
  exact ⟨b, off, e, hb, hc _ _ (encI_get l k hk)⟩
theorem R2.at_ {l : List P2} (h : Rds w 2 A l.length (enc2 l)) {k : Nat} (hk : k < l.length) : ∃ b off, A = some ⟨b, off, none⟩ ∧ b < w.heap.size ∧ w.cell? ⟨b, off + k * 2, none⟩ = some (.int .i64 l[k].1) ∧ w.cell? ⟨b, off + k * 2 + 1, none⟩ = some (.int .i64 l[k].2) := by
  obtain ⟨b, off, e, hb, hc⟩ := h.2 (by omega)
  have g := enc2_get l k hk
  exact ⟨b, off, e, hb, hc _ _ g.1, hc _ _ g.2⟩
theorem R3.at_ {l : List P3} (h : Rds w 3 A l.length (enc3 l)) {k : Nat} (hk : k < l.length) : ∃ b off, A = some ⟨b, off, none⟩ ∧ b < w.heap.size ∧ w.cell? ⟨b, off + k * 3, none⟩ = some (.int .i64 l[k].1) ∧ w.cell? ⟨b, off + k * 3 + 1, none⟩ = some (.int .i64 l[k].2.1) ∧ w.cell? ⟨b, off + k * 3 + 2, none⟩ = some (.int .i64 l[k].2.2) := by
  obtain ⟨b, off, e, hb, hc⟩ := h.2 (by omega)
  have g := enc3_get l k hk
  exact ⟨b, off, e, hb, hc _ _ g.1, hc _ _ g.2.1, hc _ _ g.2.2⟩
end
theorem all_take_succ {α : Type} (l : List α) (p : α → Bool) (k : Nat) (h : k < l.length) : (l.take (k + 1)).all p = ((l.take k).all p && p l[k]) := by
  rw [List.take_succ_eq_append_getElem h]; simp only [List.all_append, List.all_cons, List.all_nil, Bool.and_true]
theorem all_of_take {α : Type} (l : List α) (p : α → Bool) (k : Nat) (h : ¬ k < l.length) : (l.take k).all p = l.all p := by
  rw [List.take_of_length_le (by omega)]
theorem all_false_at {α : Type} (l : List α) (p : α → Bool) (k : Nat) (h : k < l.length) (hp : p l[k] = false) : l.all p = false := by
  rw [List.all_eq_false]
  exact ⟨l[k], List.getElem_mem h, by simp [hp]⟩

end Go.Proofs.Ytkgbilbicdiadaa
