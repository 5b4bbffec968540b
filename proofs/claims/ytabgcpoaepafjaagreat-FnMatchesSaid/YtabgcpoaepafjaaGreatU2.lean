/- Words and walks for the law FnMatches, a part of them. No condition but that the arguments lie in memory. -/
import Derived.WalkKit
import Derived.WalkSpells
import Derived.WalkLawsBesides
import Derived.Handy
import Derived.Deep.QuietTactic
import Derived.BigQuiet
import Derived.Deep.RegionHeld3
import Derived.Outline
import Derived.Test.YtabgcpoaepafjaaGreatProg
import Derived.Laws.OwnMore
import Derived.Laws.MakeOwn
import Derived.ProofKit
import Derived.OpenShut
import Derived.Lib.SmallJoins
import Derived.Deep.Slices
import Derived.Deep.Fields
import Derived.Maps.AppendAt
import Derived.Laws.BitsLemmas
set_option linter.unusedVariables false
set_option linter.unusedSimpArgs false
namespace Go.Proofs.YtabgcpoaepafjaaGreat
open Go.RowKit
/-- Nothing that was there has turned. -/
def Ext (w w' : World) : Prop := Below w.heap.size w w'
section
variable {a b c w w' : World}
theorem Ext.refl (w : World) : Ext w w := Below.refl _ _
theorem Ext.trans (h : Ext a b) (k : Ext b c) : Ext a c := Below.trans h (Below.mono k h.size)
theorem Ext.snoc (k : Ext b c) (h : Ext a b) : Ext a c := h.trans k
theorem Ext.alloc (h : Ext a b) (o : Obj) : Ext a (b.alloc o) := Below.alloc h h.size o
theorem Ext.drew (h : Ext a b) : Ext a b.drew := Below.drew h
theorem Ext.drewN (h : Ext a b) (n : Nat) : Ext a (b.drewN n) := h.trans ⟨rfl, rfl, rfl, Nat.le_refl _, fun _ _ => rfl⟩
theorem Ext.set (h : Ext a b) {p : Addr} (hp : a.heap.size ≤ p.block) (u : Value) : Ext a (b.setCell p u) := Below.setCell h hp u
theorem Ext.setk {k o : Nat} {s : Option Nat} (h : Ext a b) (hp : a.heap.size ≤ k) (u : Value) : Ext a (b.setCell ⟨k, o, s⟩ u) := Below.setCell h hp u
theorem Ext.set0 {g : World} {o : Nat} {s : Option Nat} (h : Ext a b) (k : Ext a g) (u : Value) : Ext a (b.setCell ⟨g.heap.size, o, s⟩ u) := Below.setCell h (Below.size k) u
theorem Ext.set1 {g : World} {o : Nat} {s : Option Nat} (h : Ext a b) (k : Ext a g) (u : Value) : Ext a (b.setCell ⟨g.heap.size + 1, o, s⟩ u) := Below.setCell h (Nat.le_succ_of_le (Below.size k)) u
theorem Ext.set2 {g : World} {o : Nat} {s : Option Nat} (h : Ext a b) (k : Ext a g) (u : Value) : Ext a (b.setCell ⟨g.heap.size + 1 + 1, o, s⟩ u) := Below.setCell h (Nat.le_succ_of_le (Nat.le_succ_of_le (Below.size k))) u
theorem Ext.set3 {g : World} {o : Nat} {s : Option Nat} (h : Ext a b) (k : Ext a g) (u : Value) : Ext a (b.setCell ⟨g.heap.size + 1 + 1 + 1, o, s⟩ u) := Below.setCell h (Nat.le_succ_of_le (Nat.le_succ_of_le (Nat.le_succ_of_le (Below.size k)))) u
theorem Ext.size (h : Ext a b) : a.heap.size ≤ b.heap.size := Below.size h
theorem Ext.below (h : Ext a b) : Below a.heap.size a b := h
theorem Ext.facts (h : Ext w w') : (∀ b o, b < w.heap.size → w'.cell? ⟨b, o, none⟩ = w.cell? ⟨b, o, none⟩) ∧ (∀ b o, b < w.heap.size → w'.frozen? ⟨b, o, none⟩ = w.frozen? ⟨b, o, none⟩) ∧
    (∀ b, b < w.heap.size → b < w'.heap.size) :=
  ⟨fun b o hb => Below.cell h (p := ⟨b, o, none⟩) hb, fun b o hb => Below.frozen h (p := ⟨b, o, none⟩) hb, fun _ hb => Nat.lt_of_lt_of_le hb h.size⟩
end
theorem ret_bool {a b : Bool} (h : a = b) : Ending.returned (.bool a) = .returned (.bool b) := by rw [h]
theorem ret_int {k : IntKind} {a b : Int} (h : a = b) : Ending.returned (.int k a) = .returned (.int k b) := by rw [h]
/-- A fact kept from the walk. -/
theorem hide {p : Prop} (h : p) : Hid p := h
/-- What holds of every world of a region: the cells that stood at its start read as they did. -/
theorem ExtS {a b : World} (h : Ext a b) : (∀ (q o : Nat), q < a.heap.size → b.cell? ⟨q, o, none⟩ = a.cell? ⟨q, o, none⟩) ∧ Ext a b := ⟨h.facts.1, h⟩
theorem own : ownKnob Tryz.prog.godebug = none := by kernel_rfl
theorem laidOut : laidOutB Tryz.prog = true := by kernel_rfl
/-- Whether a number lies in a range, both ends included. -/
def inR (n l h : Int) : Bool := decide (l ≤ n) && decide (n ≤ h)
theorem inR_true {n l h : Int} (e : inR n l h = true) : l ≤ n ∧ n ≤ h := by simpa [inR] using e
theorem within_any (n l h : Int) (w : World) : Calls Tryz.prog 67 #[.int .i64 n, .int .i64 l, .int .i64 h] w fun e w' => e = .returned (.bool (inR n l h)) ∧ w = w' := by
  go_enter Tryz.func67, Tryz.ntmps67
  go_wp2
  all_goals (go_ret; simp [inR, *]; try omega)
theorem l01In_any (n l h : Int) (w : World) : Calls Tryz.prog 65 #[.int .i64 n, .int .i64 l, .int .i64 h] w fun e w' => e = .returned (.bool (inR n l h)) ∧ w = w' := by
  go_enter Tryz.func65, Tryz.ntmps65
  go_wp2
  all_goals (go_ret; simp [inR, *]; try omega)
end Go.Proofs.YtabgcpoaepafjaaGreat
namespace Go.Proofs.YtabgcpoaepafjaaGreat
open Go.RowKit
/-- The slice of address A and n elements (sz cells each) reads as the cells xs. -/
def Rds (w : World) (sz : Nat) (A : Option Addr) (n : Nat) (xs : List Value) : Prop :=
  xs.length = n * sz ∧ (0 < n → ∃ b off, A = some ⟨b, off, none⟩ ∧ b < w.heap.size ∧ ∀ j u, xs[j]? = some u → w.cell? ⟨b, off + j, none⟩ = some u)
section
variable {w w' : World} {sz n : Nat} {A : Option Addr} {xs : List Value}
theorem Rds.nil_ : Rds w sz none 0 [] := ⟨by simp, fun h => absurd h (by omega)⟩
theorem Rds.keep (h : Rds w sz A n xs) (hs : w.heap.size ≤ w'.heap.size) (hk : ∀ b off, A = some ⟨b, off, none⟩ → 0 < n → b < w.heap.size → w'.heap[b]? = w.heap[b]?) : Rds w' sz A n xs :=
  ⟨h.1, fun hn => by
    obtain ⟨b, off, e, hb, hc⟩ := h.2 hn
    exact ⟨b, off, e, Nat.lt_of_lt_of_le hb hs, fun j u hu => (World.cell?_of_block (hk b off e hn hb)).trans (hc j u hu)⟩⟩
theorem Rds.ext (h : Rds w sz A n xs) (hb : Ext w w') : Rds w' sz A n xs := h.keep hb.size (fun b _ _ _ hlt => hb.block b hlt)
theorem Rds.alloc (h : Rds w sz A n xs) (o : Obj) : Rds (w.alloc o) sz A n xs := h.ext ((Ext.refl w).alloc o)
theorem Rds.drew (h : Rds w sz A n xs) : Rds w.drew sz A n xs := h
theorem Rds.grown (h : Rds w sz A n xs) {row : Option Nat} (hg : w.grownBy w' row) (hr : ∀ b off, A = some ⟨b, off, none⟩ → row ≠ some b) : Rds w' sz A n xs :=
  h.keep hg.size (fun b off e _ hlt => hg.block b hlt (fun e' => hr b off e e'.symm))
theorem Rds.setk {g off k o : Nat} {s : Option Nat} (h : Rds w sz (some ⟨g, off, none⟩) n xs) (hne : g ≠ k) (u : Value) : Rds (w.setCell ⟨k, o, s⟩ u) sz (some ⟨g, off, none⟩) n xs :=
  h.keep (by simp) (fun b o' e _ _ => by
    injection e with e
    injection e with e1 _ _
    subst e1
    exact Below.heap_setCell _ _ _ _ hne)
theorem Rds.of_own {base : Nat} {e : TypeId} {c : Nat} (h : w.ownsRow base e sz (.slice A n c) n xs) : Rds w sz A n xs := by
  refine ⟨h.1, fun hn => ?_⟩
  rcases h.2 with ⟨_, h0⟩ | ⟨g, cap, cur, hv, _, hh, hnc, _, hcs, htake⟩
  · omega
  · injection hv with hA _ _
    subst hA
    have hlt : g < w.heap.size := by
      rcases Nat.lt_or_ge g w.heap.size with hlt | hge
      · exact hlt
      · rw [Array.getElem?_eq_none hge] at hh; cases hh
    refine ⟨g, 0, rfl, hlt, fun j u hu => ?_⟩
    rw [Nat.zero_add]
    have hjl : j < xs.length := (List.getElem?_eq_some_iff.1 hu).1
    rw [h.1] at hjl
    rw [← htake, List.getElem?_take_of_lt hjl] at hu
    simpa [World.cell?, hh] using hu
/-- The leading part of a slice. -/
theorem Rds.take (h : Rds w sz A n xs) {k : Nat} (hk : k ≤ n) : Rds w sz A k (xs.take (k * sz)) := by
  have hle : k * sz ≤ n * sz := Nat.mul_le_mul_right sz hk
  refine ⟨by rw [List.length_take, h.1]; omega, fun hn => ?_⟩
  obtain ⟨b, off, e, hb, hc⟩ := h.2 (by omega)
  refine ⟨b, off, e, hb, fun j u hu => hc j u ?_⟩
  rw [← hu]
  have hj : j < k * sz := by
    have := (List.getElem?_eq_some_iff.1 hu).1
    simp at this; omega
  exact (List.getElem?_take_of_lt hj).symm
end
theorem grown_ext {w w' : World} (h : w.grownBy w' none) : Ext w w' := ⟨h.os, h.tape, h.output, h.size, fun k hk => h.block k hk (by simp)⟩
theorem Rds_new (w : World) (xs : List Value) (n sz g : Nat) (e : TypeId) (h : xs.length = n * sz) (hg : g = w.heap.size) : Rds (w.alloc (.cells xs.toArray e)) sz (some ⟨g, 0, none⟩) n xs := by
  subst hg
  refine ⟨h, fun _ => ⟨_, _, rfl, by simp, fun j u hu => ?_⟩⟩
  have hb : (w.alloc (.cells xs.toArray e)).heap[w.heap.size]? = some (.cells xs.toArray e) := heap_alloc_new w _
  simp only [World.cell?, Nat.zero_add]
  rw [hb]
  simpa using hu
/-! ### Lists of numbers, pairs and triples of numbers as cells -/
def encI (l : List Int) : List Value := l.map (.int .i64)
theorem encI_get (l : List Int) (k : Nat) (h : k < l.length) : (encI l)[k]? = some (.int .i64 l[k]) := by simp [encI, h]
theorem encI_append (a b : List Int) : encI (a ++ b) = encI a ++ encI b := by simp [encI]
abbrev P2 := Int × Int
abbrev P3 := Int × Int × Int
def enc2 (l : List P2) : List Value := l.flatMap fun p => [.int .i64 p.1, .int .i64 p.2]
def enc3 (l : List P3) : List Value := l.flatMap fun p => [.int .i64 p.1, .int .i64 p.2.1, .int .i64 p.2.2]
theorem enc2_length (l : List P2) : (enc2 l).length = l.length * 2 := by
  unfold enc2
  induction l with
  | nil => rfl
  | cons p l ih => simp [ih]; omega
theorem enc2_append (a b : List P2) : enc2 (a ++ b) = enc2 a ++ enc2 b := by simp [enc2]
theorem enc2_cons (p : P2) (l : List P2) : enc2 (p :: l) = .int .i64 p.1 :: .int .i64 p.2 :: enc2 l := by simp [enc2]
theorem enc3_cons (p : P3) (l : List P3) : enc3 (p :: l) = .int .i64 p.1 :: .int .i64 p.2.1 :: .int .i64 p.2.2 :: enc3 l := by simp [enc3]
theorem enc2_get (l : List P2) (k : Nat) (h : k < l.length) : (enc2 l)[k * 2]? = some (.int .i64 l[k].1) ∧ (enc2 l)[k * 2 + 1]? = some (.int .i64 l[k].2) := by
  induction l generalizing k with
  | nil => simp at h
  | cons p l ih =>
    rw [enc2_cons]
    cases k with
    | zero => simp
    | succ k =>
      have := ih k (by simpa using h)
      have e : (k + 1) * 2 = k * 2 + 1 + 1 := by omega
      rw [e]
      simpa using this
theorem enc3_get (l : List P3) (k : Nat) (h : k < l.length) : (enc3 l)[k * 3]? = some (.int .i64 l[k].1) ∧ (enc3 l)[k * 3 + 1]? = some (.int .i64 l[k].2.1) ∧ (enc3 l)[k * 3 + 2]? = some (.int .i64 l[k].2.2) := by
  induction l generalizing k with
  | nil => simp at h
  | cons p l ih =>
    rw [enc3_cons]
    cases k with
    | zero => simp
    | succ k =>
      have := ih k (by simpa using h)
      have e : (k + 1) * 3 = k * 3 + 1 + 1 + 1 := by omega
      rw [e]
      simpa using this
theorem enc2_one (l : List P2) : ∀ u ∈ enc2 l, u.oneCell' = true := by
  intro u hu
  simp only [enc2, List.mem_flatMap] at hu
  obtain ⟨a, _, hu⟩ := hu
  simp at hu
  rcases hu with rfl | rfl <;> rfl
abbrev RI (w : World) (A : Option Addr) (l : List Int) : Prop := Rds w 1 A l.length (encI l)
abbrev R2 (w : World) (A : Option Addr) (l : List P2) : Prop := Rds w 2 A l.length (enc2 l)
abbrev R3 (w : World) (A : Option Addr) (l : List P3) : Prop := Rds w 3 A l.length (enc3 l)
section
variable {w : World} {A : Option Addr}
theorem RI.at_ {l : List Int} (h : Rds w 1 A l.length (encI l)) {k : Nat} (hk : k < l.length) : ∃ b off, A = some ⟨b, off, none⟩ ∧ b < w.heap.size ∧ w.cell? ⟨b, off + k, none⟩ = some (.int .i64 l[k]) := by
  obtain ⟨b, off, e, hb, hc⟩ := h.2 (by omega)
  exact ⟨b, off, e, hb, hc _ _ (encI_get l k hk)⟩
theorem R2.at_ {l : List P2} (h : Rds w 2 A l.length (enc2 l)) {k : Nat} (hk : k < l.length) : ∃ b off, A = some ⟨b, off, none⟩ ∧ b < w.heap.size ∧ w.cell? ⟨b, off + k * 2, none⟩ = some (.int .i64 l[k].1) ∧ w.cell? ⟨b, off + k * 2 + 1, none⟩ = some (.int .i64 l[k].2) := by
  obtain ⟨b, off, e, hb, hc⟩ := h.2 (by omega)
  have g := enc2_get l k hk
  exact ⟨b, off, e, hb, hc _ _ g.1, hc _ _ g.2⟩
theorem R3.at_ {l : List P3} (h : Rds w 3 A l.length (enc3 l)) {k : Nat} (hk : k < l.length) : ∃ b off, A = some ⟨b, off, none⟩ ∧ b < w.heap.size ∧ w.cell? ⟨b, off + k * 3, none⟩ = some (.int .i64 l[k].1) ∧ w.cell? ⟨b, off + k * 3 + 1, none⟩ = some (.int .i64 l[k].2.1) ∧ w.cell? ⟨b, off + k * 3 + 2, none⟩ = some (.int .i64 l[k].2.2) := by
  obtain ⟨b, off, e, hb, hc⟩ := h.2 (by omega)
  have g := enc3_get l k hk
  exact ⟨b, off, e, hb, hc _ _ g.1, hc _ _ g.2.1, hc _ _ g.2.2⟩
end
theorem all_take_succ {α : Type} (l : List α) (p : α → Bool) (k : Nat) (h : k < l.length) : (l.take (k + 1)).all p = ((l.take k).all p && p l[k]) := by
  rw [List.take_succ_eq_append_getElem h]; simp only [List.all_append, List.all_cons, List.all_nil, Bool.and_true]
theorem all_of_take {α : Type} (l : List α) (p : α → Bool) (k : Nat) (h : ¬ k < l.length) : (l.take k).all p = l.all p := by
  rw [List.take_of_length_le (by omega)]
theorem all_false_at {α : Type} (l : List α) (p : α → Bool) (k : Nat) (h : k < l.length) (hp : p l[k] = false) : l.all p = false := by
  rw [List.all_eq_false]
  exact ⟨l[k], List.getElem_mem h, by simp [hp]⟩
end Go.Proofs.YtabgcpoaepafjaaGreat
namespace Go.Proofs.YtabgcpoaepafjaaGreat
open Go.ChangeShapes Go.WideShapes Go.RowKit Go.Joins Go.Deep
theorem cell_lt {w : World} {b o : Nat} {v : Value} (h : w.cell? ⟨b, o, none⟩ = some v) : b < w.heap.size := by
  rcases Nat.lt_or_ge b w.heap.size with hl | hg
  · exact hl
  · have : w.heap[b]? = none := Array.getElem?_eq_none hg
    simp [World.cell?, this] at h
section
variable {H : Type} {enc : TypeId × Value → H} {P : Program} {w : World} {base : Nat}
end
end Go.Proofs.YtabgcpoaepafjaaGreat
namespace Go.Proofs.YtabgcpoaepafjaaGreat
open Go.RowKit
/-- The table f with one place changed. -/
def upd (f : Nat → Nat → Int) (i j : Nat) (v : Int) : Nat → Nat → Int := fun a b => if a = i ∧ b = j then v else f a b
theorem upd_ne (f : Nat → Nat → Int) (i j : Nat) (v : Int) {a b : Nat} (h : a ≠ i ∨ b ≠ j) : upd f i j v a b = f a b := by
  unfold upd
  rw [if_neg (by omega)]
/-- Block g has the cells cs, none of them frozen. -/
def Blk (w : World) (g : Nat) (T : TypeId) (cs : List Value) : Prop := w.heap[g]? = some (.cells cs.toArray T (0, 0))
section
variable {w w' : World} {g : Nat} {T : TypeId} {cs : List Value}
theorem Blk.lt (h : Blk w g T cs) : g < w.heap.size := by
  rcases Nat.lt_or_ge g w.heap.size with hlt | hge
  · exact hlt
  · have : w.heap[g]? = none := Array.getElem?_eq_none hge
    unfold Blk at h
    rw [this] at h
    cases h
theorem Blk.ext (h : Blk w g T cs) (hE : Ext w w') : Blk w' g T cs := (hE.block g h.lt).trans h
theorem Blk.grown {row : Option Nat} (h : Blk w g T cs) (hg : w.grownBy w' row) (hne : row ≠ some g) : Blk w' g T cs := (hg.block g h.lt (fun e => hne e.symm)).trans h
theorem Blk.cell (h : Blk w g T cs) (i : Nat) : w.cell? ⟨g, i, none⟩ = cs[i]? := by
  simp only [World.cell?]
  rw [h]
  simp
theorem Blk.free (h : Blk w g T cs) (i : Nat) : w.frozen? ⟨g, i, none⟩ = false := by
  simp only [World.frozen?]
  rw [h]
  simp
theorem Blk.set (h : Blk w g T cs) (i : Nat) (u : Value) : Blk (w.setCell ⟨g, i, none⟩ u) g T (cs.set i u) := by
  have := heap_setCell_same w g i cs.toArray T u h
  simpa [Blk] using this
theorem Blk.other (h : Blk w g T cs) {k i : Nat} (hne : g ≠ k) (u : Value) : Blk (w.setCell ⟨k, i, none⟩ u) g T cs := (Below.heap_setCell _ _ _ _ hne).trans h
theorem Blk.new (w : World) (T : TypeId) (cs : List Value) : Blk (w.alloc (.cells cs.toArray T)) w.heap.size T cs := heap_alloc_new w _
theorem Blk.of_own {base n sz cap : Nat} {xs : List Value} (h : w.ownsRow base T sz (.slice (some ⟨g, 0, none⟩) n cap) n xs) : ∃ cs, Blk w g T cs ∧ cs.take (n * sz) = xs ∧ cs.length = cap * sz ∧ base ≤ g := by
  rcases h.2 with ⟨hv, _⟩ | ⟨g', cap', cur, hv, hbb, hh, _, _, hcs, htake⟩
  · cases hv
  · injection hv with hv _ hc
    injection hv with hv
    injection hv with hv _ _
    subst hv hc
    exact ⟨cur.toList, by simpa [Blk] using hh, htake, by simpa using hcs, hbb⟩
end
/-- A row of numbers. -/
def rowOf (n : Nat) (f : Nat → Int) : List Value := (List.range n).map fun j => Value.int .i64 (f j)
theorem rowOf_get {n j : Nat} (f : Nat → Int) (h : j < n) : (rowOf n f)[j]? = some (.int .i64 (f j)) := by simp [rowOf, h]
theorem rowOf_length (n : Nat) (f : Nat → Int) : (rowOf n f).length = n := by simp [rowOf]
theorem rowOf_set {n j : Nat} (f : Nat → Int) (v : Int) (h : j < n) : (rowOf n f).set j (.int .i64 v) = rowOf n (fun k => if k = j then v else f k) := by
  apply List.ext_getElem?
  intro k
  by_cases hk : k = j
  · subst hk
    rw [List.getElem?_set_self (by rw [rowOf_length]; exact h), rowOf_get _ h]
    simp
  · rw [List.getElem?_set_ne (fun e => hk e.symm)]
    by_cases hkn : k < n
    · rw [rowOf_get _ hkn, rowOf_get _ hkn]
      simp [hk]
    · rw [List.getElem?_eq_none (by rw [rowOf_length]; omega), List.getElem?_eq_none (by rw [rowOf_length]; omega)]
theorem rowOf_zero (n : Nat) : List.replicate n (Value.int .i64 0) = rowOf n (fun _ => 0) := by
  apply List.ext_getElem?
  intro k
  by_cases hkn : k < n
  · rw [rowOf_get _ hkn]
    simp [hkn]
  · rw [List.getElem?_eq_none (by simp; omega), List.getElem?_eq_none (by rw [rowOf_length]; omega)]
/-- Block hd holds M headers at least; the first m rows, of n numbers each, read as f. -/
def Mat (w : World) (B hd M m n : Nat) (Th Te : TypeId) (f : Nat → Nat → Int) : Prop :=
  ∃ (G : Nat → Nat) (hs : List Value), B ≤ hd ∧ Blk w hd Th hs ∧ M ≤ hs.length ∧ m ≤ M ∧ (∀ i, i < m → hs[i]? = some (.slice (some ⟨G i, 0, none⟩) n n) ∧ B ≤ G i ∧ G i ≠ hd ∧ Blk w (G i) Te (rowOf n (f i))) ∧ (∀ i j, i < m → j < m → G i = G j → i = j)
section
variable {w w' : World} {B hd M m n : Nat} {Th Te : TypeId} {f f' : Nat → Nat → Int}
theorem Mat.ext (h : Mat w B hd M m n Th Te f) (hE : Ext w w') : Mat w' B hd M m n Th Te f := by
  obtain ⟨G, hs, h1, h2, h3, h4, h5, h6⟩ := h
  exact ⟨G, hs, h1, h2.ext hE, h3, h4, fun i hi => ⟨(h5 i hi).1, (h5 i hi).2.1, (h5 i hi).2.2.1, (h5 i hi).2.2.2.ext hE⟩, h6⟩
theorem Mat.lt (h : Mat w B hd M m n Th Te f) : B ≤ hd ∧ hd < w.heap.size := by
  obtain ⟨G, hs, h1, h2, _⟩ := h
  exact ⟨h1, h2.lt⟩
/-- A place of the table: its header, its cell, and what a store there leaves. -/
theorem Mat.at_ (h : Mat w B hd M m n Th Te f) {i j : Nat} (hi : i < m) (hj : j < n) : ∃ g, w.cell? ⟨hd, i, none⟩ = some (.slice (some ⟨g, 0, none⟩) n n) ∧ w.cell? ⟨g, j, none⟩ = some (.int .i64 (f i j)) ∧ w.frozen? ⟨g, j, none⟩ = false ∧
    B ≤ g ∧ g < w.heap.size ∧ ∀ v, Mat (w.setCell ⟨g, j, none⟩ (.int .i64 v)) B hd M m n Th Te (upd f i j v) := by
  obtain ⟨G, hs, h1, h2, h3, h4, h5, h6⟩ := h
  obtain ⟨e1, e2, e3, e4⟩ := h5 i hi
  refine ⟨G i, by rw [h2.cell, e1], by rw [e4.cell, rowOf_get _ hj], e4.free _, e2, e4.lt, fun v => ?_⟩
  refine ⟨G, hs, h1, h2.other (fun e => e3 e.symm) _, h3, h4, fun k hk => ⟨(h5 k hk).1, (h5 k hk).2.1, (h5 k hk).2.2.1, ?_⟩, h6⟩
  by_cases hki : k = i
  · subst hki
    have := e4.set j (.int .i64 v)
    rw [rowOf_set _ _ hj] at this
    have e : (fun b => if b = j then v else f k b) = upd f k j v k := by
      funext b
      simp [upd]
    rw [← e]
    exact this
  · have e : f k = upd f i j v k := by
      funext b
      rw [upd_ne _ _ _ _ (.inl hki)]
    rw [← e]
    exact (h5 k hk).2.2.2.other (fun e => hki (h6 k i hk hi e)) _
/-- A row of headers without rows. -/
theorem Mat.start (hs : List Value) (hb : B ≤ hd) (h : Blk w hd Th hs) (hM : M ≤ hs.length) : Mat w B hd M 0 n Th Te f :=
  ⟨fun _ => 0, hs, hb, h, hM, Nat.zero_le _, fun i hi => absurd hi (Nat.not_lt_zero i), fun i _ hi => absurd hi (Nat.not_lt_zero i)⟩
/-- A row of zeros more. -/
theorem Mat.row (h : Mat w B hd M m n Th Te f) (hm : m < M) (hB : B ≤ w.heap.size) (hE : Ext w w') (hb : Blk w' w.heap.size Te (List.replicate n (Value.int .i64 0))) (hf : ∀ i j, i < m → f' i j = f i j) (hf0 : ∀ j, f' m j = 0) :
    Mat (w'.setCell ⟨hd, m, none⟩ (.slice (some ⟨w.heap.size, 0, none⟩) n n)) B hd M (m + 1) n Th Te f' := by
  obtain ⟨G, hs, h1, h2, h3, h4, h5, h6⟩ := h
  have hlt : ∀ i, i < m → G i < w.heap.size := fun i hi => (h5 i hi).2.2.2.lt
  have hdl := h2.lt
  refine ⟨fun i => if i = m then w.heap.size else G i, hs.set m (.slice (some ⟨w.heap.size, 0, none⟩) n n), h1, (h2.ext hE).set _ _, by simpa using h3, hm, fun i hi => ?_, fun i j hi hj e => ?_⟩
  · by_cases him : i = m
    · subst him
      have e : rowOf n (f' i) = List.replicate n (Value.int .i64 0) := by
        rw [rowOf_zero]
        congr 1
        funext j
        exact hf0 j
      refine ⟨by rw [List.getElem?_set_self (by omega)]; simp, by simpa using hB, by simp only [if_true]; omega, ?_⟩
      simp only [if_true]
      rw [e]
      exact hb.other (by omega) _
    · obtain ⟨e1, e2, e3, e4⟩ := h5 i (by omega)
      have e : f' i = f i := by
        funext j
        exact hf i j (by omega)
      simp only [him, if_false]
      refine ⟨by rw [List.getElem?_set_ne (fun e => him e.symm)]; exact e1, e2, e3, ?_⟩
      rw [e]
      exact (e4.ext hE).other e3 _
  · have hi' := hlt i
    have hj' := hlt j
    have hG := h6 i j
    by_cases him : i = m <;> by_cases hjm : j = m <;> simp [him, hjm] at e <;> omega
end
end Go.Proofs.YtabgcpoaepafjaaGreat
namespace Go.Proofs.YtabgcpoaepafjaaGreat
open Go.RowKit
theorem Ext.grown {a w w' : World} {row : Option Nat} (h : Ext a w) (hg : w.grownBy w' row) (hr : ∀ k, row = some k → a.heap.size ≤ k) : Ext a w' := Below.grown h hg h.size hr
theorem own_base {a w : World} {base n sz : Nat} {e : TypeId} {v : Value} {xs : List Value} (h : w.ownsRow base e sz v n xs) (hb : a.heap.size ≤ base) : ∀ k, v.ownBlock = some k → a.heap.size ≤ k := fun k hk => Nat.le_trans hb (h.lt k hk).1
theorem own_slice {w : World} {base n sz : Nat} {e : TypeId} {v : Value} {xs : List Value} (h : w.ownsRow base e sz v n xs) : ∃ A c, v = .slice A n c ∧ n ≤ c ∧ (A = none → n = 0) ∧ ∀ a, A = some a → ∃ g, a = ⟨g, 0, none⟩ ∧ base ≤ g ∧ g < w.heap.size ∧ v.ownBlock = some g := by
  rcases h.2 with ⟨rfl, rfl⟩ | ⟨g, cap, cur, rfl, hb, hh, hnc, _, _, _⟩
  · exact ⟨none, 0, rfl, Nat.le_refl _, fun _ => rfl, fun a e => by cases e⟩
  · refine ⟨some ⟨g, 0, none⟩, cap, rfl, hnc, fun e => by (cases e), fun a e => ?_⟩
    injection e with e
    subst e
    refine ⟨g, rfl, hb, ?_, rfl⟩
    rcases Nat.lt_or_ge g w.heap.size with hlt | hge
    · exact hlt
    · rw [Array.getElem?_eq_none hge] at hh; cases hh
theorem own_mono {w : World} {base base' n sz : Nat} {e : TypeId} {v : Value} {xs : List Value} (h : w.ownsRow base e sz v n xs) (hb : base' ≤ base) : w.ownsRow base' e sz v n xs := by
  refine ⟨h.1, ?_⟩
  rcases h.2 with h1 | ⟨g, cap, cur, h1, h2, h3⟩
  · exact .inl h1
  · exact .inr ⟨g, cap, cur, h1, Nat.le_trans hb h2, h3⟩
/-- The cells of a block that was just made. -/
theorem news_new (w : World) (xs : Array Value) (T : TypeId) : ∀ j u, xs.toList[j]? = some u → (w.alloc (.cells xs T)).cell? (Addr.add ⟨w.heap.size, 0, none⟩ j) = some u := by
  intro j u hu
  have hb : (w.alloc (.cells xs T)).heap[w.heap.size]? = some (.cells xs T) := heap_alloc_new w _
  have ha : Addr.add ⟨w.heap.size, 0, none⟩ j = ⟨w.heap.size, j, none⟩ := by
    unfold Addr.add
    split <;> simp_all
  rw [ha]
  simp only [World.cell?]
  rw [hb]
  simpa using hu
end Go.Proofs.YtabgcpoaepafjaaGreat
namespace Go.Proofs.YtabgcpoaepafjaaGreat
open Go.RowKit
/-- The cells of block b from place i on read as the values. -/
def CellsAt (w : World) (b : Nat) : Nat → List Value → Prop
  | _, [] => True
  | i, v :: vs => w.cell? ⟨b, i, none⟩ = some v ∧ CellsAt w b (i + 1) vs
/-- The boxes read so. -/
def Bx : List (Nat × List Value) → World → Prop
  | [], _ => True
  | (b, vs) :: r, w => (b < w.heap.size ∧ (∀ i, w.frozen? ⟨b, i, none⟩ = false) ∧ CellsAt w b 0 vs) ∧ Bx r w
theorem CellsAt.ext {w w' : World} {b : Nat} (hE : Ext w w') (hb : b < w.heap.size) : ∀ {i : Nat} {vs : List Value}, CellsAt w b i vs → CellsAt w' b i vs
  | _, [], _ => trivial
  | i, _ :: _, h => ⟨(hE.facts.1 b i hb).trans h.1, CellsAt.ext hE hb h.2⟩
theorem Bx.ext {w w' : World} (hE : Ext w w') : ∀ {bs : List (Nat × List Value)}, Bx bs w → Bx bs w'
  | [], _ => trivial
  | (b, _) :: _, h => ⟨⟨hE.facts.2.2 b h.1.1, fun i => (hE.facts.2.1 b i h.1.1).trans (h.1.2.1 i), CellsAt.ext hE h.1.1 h.1.2.2⟩, Bx.ext hE h.2⟩
/-- Boxes of a world behind w0. -/
def Tr (bs : List (Nat × List Value)) (w0 w : World) : Prop := Bx bs w ∧ Ext w0 w
theorem Tr.ext {bs : List (Nat × List Value)} {w0 w w' : World} (h : Tr bs w0 w) (hE : Ext w w') : Tr bs w0 w' := ⟨Bx.ext hE h.1, h.2.trans hE⟩
theorem Tr.more {bs : List (Nat × List Value)} {w0 w w' : World} (h : Tr bs w0 w) (hE : Ext w w') (b : Nat) (vs : List Value) (hb : b < w'.heap.size ∧ (∀ i, w'.frozen? ⟨b, i, none⟩ = false) ∧ CellsAt w' b 0 vs) : Tr ((b, vs) :: bs) w0 w' := ⟨⟨hb, Bx.ext hE h.1⟩, h.2.trans hE⟩
end Go.Proofs.YtabgcpoaepafjaaGreat
namespace Go.Proofs.YtabgcpoaepafjaaGreat
open Go.RowKit
theorem Bx.app {w : World} : ∀ {nb bs : List (Nat × List Value)}, Bx nb w → Bx bs w → Bx (nb ++ bs) w
  | [], _, _, h => h
  | _ :: _, _, h, k => ⟨h.1, Bx.app h.2 k⟩
theorem Tr.mores {bs : List (Nat × List Value)} {w0 w w' : World} (h : Tr bs w0 w) (hE : Ext w w') (nb : List (Nat × List Value)) (hb : Bx nb w') : Tr (nb ++ bs) w0 w' := ⟨Bx.app hb (Bx.ext hE h.1), h.2.trans hE⟩
end Go.Proofs.YtabgcpoaepafjaaGreat
namespace Go.Proofs.YtabgcpoaepafjaaGreat
open Go.RowKit
theorem ext_grown {w w' : World} (h : Ext w w') (row : Option Nat) : w.grownBy w' row := ⟨h.os, h.tape, h.output, h.size, fun k hk _ => h.block k hk⟩
theorem own_ext {w w' : World} {base n sz : Nat} {e : TypeId} {v : Value} {xs : List Value} (h : w.ownsRow base e sz v n xs) (hE : Ext w w') : w'.ownsRow base e sz v n xs := by
  rcases hv : v.ownBlock with _ | g
  · exact h.kept (ext_grown hE none) (.inl hv)
  · exact h.kept (ext_grown hE none) (.inr (by rw [hv]; simp))
def szR (n : Nat) (left : Int) : Int := if left < n then -1 else left - n
theorem szNodeS_any (l : List P2) (A : Option Addr) (c : Nat) (left : Int) (w : World) (hl : l.length ≤ maxLen) (h0 : 0 ≤ left) (h1 : left ≤ 1048576) :
    Calls Tryz.prog 69 #[.slice A l.length c, .int .i64 left] w fun e w' => e = .returned (.int .i64 (szR l.length left)) ∧ w = w' := by
  unfold maxLen at hl
  by_cases h : left < l.length
  · go_enter Tryz.func69, Tryz.ntmps69
    go_wp2
    go_ret
    exact ⟨ret_int (by simp [szR, h]), rfl⟩
  · go_enter Tryz.func69, Tryz.ntmps69
    go_wp2
    go_ret
    exact ⟨ret_int (by unfold szR; rw [if_neg (by omega)]), rfl⟩
def eq2 (a b x y : Int) : Bool := decide (a = x) && decide (b = y)
end Go.Proofs.YtabgcpoaepafjaaGreat
namespace Go.Proofs.YtabgcpoaepafjaaGreat
open Go.RowKit
/-- Where a pair stands first in a list; -1 if it does not. -/
def ix2 (l : List P2) (p : P2) : Int := if p ∈ l then (l.idxOf p : Nat) else -1
theorem ix2_none {l : List P2} {p : P2} (h : p ∉ l) : ix2 l p = -1 := by rw [ix2, if_neg h]
theorem ix2_some {l : List P2} {p : P2} {k : Nat} (h : k < l.length) (he : l[k] = p) (hn : ∀ j (hj : j < k), l[j] ≠ p) : ix2 l p = k := by
  have hm : p ∈ l := by rw [← he]; exact List.getElem_mem h
  rw [ix2, if_pos hm]
  have h1 : l.idxOf p < l.length := List.idxOf_lt_length_of_mem hm
  have h2 : l[l.idxOf p] = p := List.getElem_idxOf h1
  rcases Nat.lt_trichotomy (l.idxOf p) k with h3 | h3 | h3
  · exact absurd h2 (hn _ h3)
  · rw [h3]
  · have := List.not_of_lt_findIdx (p := (· == p)) (xs := l) (i := k) (by simpa [List.idxOf] using h3)
    simp [he] at this
theorem ix2_nonneg (l : List P2) (p : P2) : (0 ≤ ix2 l p) ↔ p ∈ l := by
  unfold ix2
  split <;> simp [*]
theorem IndexNode_any (l : List P2) (A : Option Addr) (c : Nat) (x y : Int) (w : World) (hl : l.length ≤ 1048576) (hr : R2 w A l) :
    Calls Tryz.prog 138 #[.slice A l.length c, .agg #[.int .i64 x, .int .i64 y]] w fun e w' => e = .returned (.int .i64 (ix2 l (x, y))) ∧ Ext w w' := by
  have HR := hide hr
  clear hr
  go_enter Tryz.func138, Tryz.ntmps138
  go_wp2_with fail
  obtain ⟨w1, hw1⟩ : ∃ w1, w1 = w.alloc (Obj.cells #[Value.int IntKind.i64 x, Value.int IntKind.i64 y] 84) := ⟨_, rfl⟩
  rw [← hw1]
  have D1 : w1.cell? ⟨w.heap.size, 0, none⟩ = some (.int .i64 x) ∧ w1.cell? ⟨w.heap.size, 1, none⟩ = some (.int .i64 y) ∧ w.heap.size < w1.heap.size := by rw [hw1]; simp [go_sem]
  have D2 : Ext w w1 := by rw [hw1]; repeat (first | exact kE | exact Ext.refl _ | apply Ext.alloc | apply Ext.drewN | apply Ext.drew | apply Ext.set0 | apply Ext.set1 | apply Ext.set2 | apply Ext.set3 | (refine Ext.setk ?_ (by omega) _) | (apply Ext.snoc; assumption))
  have HD := hide (And.intro D1.1 (And.intro D1.2.1 (And.intro D1.2.2 D2)))
  clear D1 D2 hw1
  go_loopw [8] (fun i wr => ∃ k : Nat, k ≤ l.length ∧ i = .int .i64 k ∧ Hid (∀ j (h : j < k) (h' : j < l.length), l[j] ≠ (x, y)) ∧ Ext w1 wr) (fun i _ => l.length - (intOf i).toNat)
  case atStart => exact ⟨0, Nat.zero_le _, rfl, hide (by intro j h; omega), Ext.refl _⟩
  case round =>
    obtain ⟨k, hk, rfl, hp, hE⟩ := hrel
    obtain ⟨D0, D1, hz, hE1⟩ := HD.out
    have c0 := (hE.facts.1 _ 0 hz).trans D0
    have c1 := (hE.facts.1 _ 1 hz).trans D1
    clear D0 D1
    by_cases hlt : k < l.length
    · obtain ⟨b, off, rfl, hb, e0, e1⟩ := R2.at_ (HR.out.ext (hE1.trans hE)) hlt
      by_cases hx : x = l[k].1 ∧ y = l[k].2
      · obtain ⟨hx0, hx1⟩ := hx
        go_wp2
        go_quiet (fail)
        go_wp2
        go_ret
        exact ⟨ret_int (ix2_some hlt (Prod.ext hx0.symm hx1.symm) (fun j hj => hp.out j hj (by omega))).symm, by repeat (first | exact kE | exact Ext.refl _ | apply Ext.alloc | apply Ext.drewN | apply Ext.drew | apply Ext.set0 | apply Ext.set1 | apply Ext.set2 | apply Ext.set3 | (refine Ext.setk ?_ (by omega) _) | (apply Ext.snoc; assumption))⟩
      · have HX := hide hx
        by_cases hx0 : x = l[k].1
        · have hx1 : ¬ y = l[k].2 := fun h => hx ⟨hx0, h⟩
          clear hx
          go_wp2
          go_quiet (fail)
          go_wp2
          go_roundw
          case rel => exact ⟨k + 1, by omega, by go_num, hide (fun j hj hj' => by
            rcases Nat.lt_or_ge j k with h | h
            · exact hp.out j h hj'
            · obtain rfl : j = k := by omega
              exact fun e => HX.out ⟨by rw [e], by rw [e]⟩), by repeat (first | exact kE | exact Ext.refl _ | apply Ext.alloc | apply Ext.drewN | apply Ext.drew | apply Ext.set0 | apply Ext.set1 | apply Ext.set2 | apply Ext.set3 | (refine Ext.setk ?_ (by omega) _) | (apply Ext.snoc; assumption))⟩
          case measure => simp [intOf]; omega
        · clear hx
          go_wp2
          go_quiet (fail)
          go_wp2
          go_roundw
          case rel => exact ⟨k + 1, by omega, by go_num, hide (fun j hj hj' => by
            rcases Nat.lt_or_ge j k with h | h
            · exact hp.out j h hj'
            · obtain rfl : j = k := by omega
              exact fun e => HX.out ⟨by rw [e], by rw [e]⟩), by repeat (first | exact kE | exact Ext.refl _ | apply Ext.alloc | apply Ext.drewN | apply Ext.drew | apply Ext.set0 | apply Ext.set1 | apply Ext.set2 | apply Ext.set3 | (refine Ext.setk ?_ (by omega) _) | (apply Ext.snoc; assumption))⟩
          case measure => simp [intOf]; omega
    · go_wp2
      go_ret
      exact ⟨ret_int (ix2_none (fun h => by
        obtain ⟨j, hj, hjp⟩ := List.getElem_of_mem h
        exact hp.out j (by omega) hj hjp)).symm, by repeat (first | exact kE | exact Ext.refl _ | apply Ext.alloc | apply Ext.drewN | apply Ext.drew | apply Ext.set0 | apply Ext.set1 | apply Ext.set2 | apply Ext.set3 | (refine Ext.setk ?_ (by omega) _) | (apply Ext.snoc; assumption))⟩
theorem ContainsNode_any (l : List P2) (A : Option Addr) (c : Nat) (x y : Int) (w : World) (hl : l.length ≤ 1048576) (hr : R2 w A l) :
    Calls Tryz.prog 131 #[.slice A l.length c, .agg #[.int .i64 x, .int .i64 y]] w fun e w' => e = .returned (.bool (decide ((x, y) ∈ l))) ∧ Ext w w' := by
  have HR := hide hr
  clear hr
  go_enter Tryz.func131, Tryz.ntmps131
  go_wp2_with fail
  refine (IndexNode_any l A c x y _ hl (Rds.ext HR.out (by repeat (first | exact kE | exact Ext.refl _ | apply Ext.alloc | apply Ext.drewN | apply Ext.drew | apply Ext.set0 | apply Ext.set1 | apply Ext.set2 | apply Ext.set3 | (refine Ext.setk ?_ (by omega) _) | (apply Ext.snoc; assumption))))).mono ?_; rintro e w1 ⟨rfl, hb1⟩
  go_wp2_with fail
  go_ret
  exact ⟨ret_bool (by rw [Bool.eq_iff_iff]; simp [ix2_nonneg]), by repeat (first | exact kE | exact Ext.refl _ | apply Ext.alloc | apply Ext.drewN | apply Ext.drew | apply Ext.set0 | apply Ext.set1 | apply Ext.set2 | apply Ext.set3 | (refine Ext.setk ?_ (by omega) _) | (apply Ext.snoc; assumption))⟩
theorem enc2_take (l : List P2) (k : Nat) : (enc2 l).take (k * 2) = enc2 (l.take k) := by
  induction l generalizing k with
  | nil => simp [enc2]
  | cons p l ih =>
    cases k with
    | zero => simp [enc2]
    | succ k =>
      rw [enc2_cons, List.take_succ_cons, enc2_cons, show (k + 1) * 2 = k * 2 + 1 + 1 from by omega, List.take_succ_cons, List.take_succ_cons, ih]
theorem R2.take {w : World} {A : Option Addr} {l : List P2} (h : R2 w A l) {k : Nat} (hk : k ≤ l.length) : Rds w 2 A k (enc2 (l.take k)) := by
  rw [← enc2_take]
  exact Rds.take h hk
theorem ContainsTake_any (l : List P2) (A : Option Addr) (k c : Nat) (x y : Int) (w : World) (hl : l.length ≤ 1048576) (hk : k ≤ l.length) (hr : R2 w A l) :
    Calls Tryz.prog 131 #[.slice A k c, .agg #[.int .i64 x, .int .i64 y]] w fun e w' => e = .returned (.bool (decide ((x, y) ∈ l.take k))) ∧ Ext w w' := by
  have e : (l.take k).length = k := by simp; omega
  have h := ContainsNode_any (l.take k) A c x y w (by omega) (by show Rds w 2 A (l.take k).length (enc2 (l.take k)); rw [e]; exact R2.take hr hk)
  rwa [e] at h
end Go.Proofs.YtabgcpoaepafjaaGreat
namespace Go.Proofs.YtabgcpoaepafjaaGreat
open Go.RowKit
theorem allWithin_any (l : List Int) (A : Option Addr) (c : Nat) (lo hi : Int) (w : World) (hl : l.length ≤ 1048576) (hr : RI w A l) :
   Calls Tryz.prog 104 #[.slice A l.length c, .int .i64 lo, .int .i64 hi] w fun e w' => e = .returned (.bool (l.all (inR · lo hi))) ∧ w = w' := by
  have HR := hide hr
  clear hr
  go_enter Tryz.func104, Tryz.ntmps104
  go_wp2
  go_loop [11] (fun i => ∃ k : Nat, k ≤ l.length ∧ i = .int .i64 k ∧ Hid ((l.take k).all (inR · lo hi) = true)) (fun i => l.length - (intOf i).toNat)
  case atStart => exact ⟨0, Nat.zero_le _, rfl, hide (by simp)⟩
  case round =>
    obtain ⟨k, hk, rfl, hp⟩ := hrel
    by_cases hlt : k < l.length
    · obtain ⟨b, off, rfl, _, hcell⟩ := RI.at_ HR.out hlt
      go_wp2_with (first | (go_at_call 67; refine (within_any _ _ _ _).mono ?_; rintro e w' ⟨rfl, rfl⟩))
      · have ht : (!inR l[k] lo hi) = true := by assumption
        go_ret
        exact ⟨ret_bool (all_false_at l (inR · lo hi) k hlt (by simpa using ht)).symm, rfl⟩
      · have ht : (!inR l[k] lo hi) = false := by assumption
        go_round
        case rel => exact ⟨k + 1, by omega, by go_num, hide (by rw [all_take_succ l _ k hlt, hp.out]; simpa using ht)⟩
        case measure => simp [intOf]; omega
    · go_wp2
      go_ret
      exact ⟨ret_bool (by rw [← all_of_take l _ k hlt, hp.out]), rfl⟩
theorem int_info : (Tryz.prog.info? 3).map (fun i => (i.zero, i.size, i.bytes)) = some (some (.int .i64 0), 1, 8) := by kernel_rfl
def countNN (l : List Int) : Nat := (l.filter (fun x => decide (0 ≤ x))).length
theorem countNN_le (l : List Int) : countNN l ≤ l.length := List.length_filter_le _ _
theorem countNN_succ (l : List Int) (k : Nat) (h : k < l.length) : countNN (l.take (k + 1)) = countNN (l.take k) + if 0 ≤ l[k] then 1 else 0 := by
  unfold countNN
  rw [List.take_succ_eq_append_getElem h, List.filter_append, List.length_append]
  by_cases hx : 0 ≤ l[k] <;> simp [hx]
theorem CountMatched_any (l : List Int) (A : Option Addr) (c : Nat) (w : World) (hl : l.length ≤ 1048576) (hr : RI w A l) :
   Calls Tryz.prog 12 #[.slice A l.length c] w fun e w' => e = .returned (.int .i64 (countNN l)) ∧ w = w' := by
  have HR := hide hr
  clear hr
  go_enter Tryz.func12, Tryz.ntmps12
  go_wp2
  go_loop [3, 8] (fun n i => ∃ k : Nat, k ≤ l.length ∧ i = .int .i64 k ∧ n = .int .i64 (countNN (l.take k))) (fun _ i => l.length - (intOf i).toNat)
  case atStart => exact ⟨0, Nat.zero_le _, rfl, rfl⟩
  case round =>
    obtain ⟨k, hk, rfl, rfl⟩ := hrel
    have hle : countNN (l.take k) ≤ k := Nat.le_trans (countNN_le _) (by simp; omega)
    by_cases hlt : k < l.length
    · obtain ⟨b, off, rfl, _, hcell⟩ := RI.at_ HR.out hlt
      have hs := hide (countNN_succ l k hlt)
      go_wp2
      all_goals
        go_round
        case rel => exact ⟨k + 1, by omega, by go_num, by rw [hs.out]; first | (rw [if_pos (by assumption)]; go_num) | (rw [if_neg (by omega)]; go_num)⟩
        case measure => simp [intOf]; omega
    · go_wp2
      go_ret
      exact ⟨ret_int (by rw [List.take_of_length_le (by omega)]), rfl⟩
end Go.Proofs.YtabgcpoaepafjaaGreat
namespace Go.Proofs.YtabgcpoaepafjaaGreat
theorem wraps_i64 (n : Int) (h₀ : 0 ≤ n) (h₁ : n < 2 ^ 62) : IntKind.i64.wrap n = n := by rw [IntKind.wrap_i64]; omega
theorem i64_and (a b : Nat) (ha : a < 2 ^ 62) (hb : b < 2 ^ 62) : bits .and .i64 (a : Int) (b : Int) = ((a &&& b : Nat) : Int) := (bits_nat .i64 62 (by decide) wraps_i64 a b ha hb).1
theorem i64_or (a b : Nat) (ha : a < 2 ^ 62) (hb : b < 2 ^ 62) : bits .or .i64 (a : Int) (b : Int) = ((a ||| b : Nat) : Int) := (bits_nat .i64 62 (by decide) wraps_i64 a b ha hb).2
theorem bit_at (s i : Nat) (hs : s < 2 ^ 62) : bits .and .i64 ((s : Int) / 2 ^ i) 1 = if s.testBit i then 1 else 0 := by
  have e : (s : Int) / 2 ^ i = ((s / 2 ^ i : Nat) : Int) := by simp
  have h2 : s / 2 ^ i < 2 ^ 62 := Nat.lt_of_le_of_lt (Nat.div_le_self _ _) hs
  have := i64_and (s / 2 ^ i) 1 h2 (by decide)
  rw [e]
  refine this.trans ?_
  rw [Nat.and_one_is_mod]
  have h := Nat.testBit_eq_decide_div_mod_eq (x := s) (i := i)
  by_cases hb : s / 2 ^ i % 2 = 1
  · rw [h, hb]; simp
  · have : s / 2 ^ i % 2 = 0 := by omega
    rw [h, this]; simp
end Go.Proofs.YtabgcpoaepafjaaGreat
namespace Go.Proofs.YtabgcpoaepafjaaGreat
open Go.RowKit
end Go.Proofs.YtabgcpoaepafjaaGreat
namespace Go.Proofs.YtabgcpoaepafjaaGreat
open Go.RowKit
end Go.Proofs.YtabgcpoaepafjaaGreat
