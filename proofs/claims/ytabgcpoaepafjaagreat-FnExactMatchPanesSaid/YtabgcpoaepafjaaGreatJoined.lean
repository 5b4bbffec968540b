/- The walk of the program's neighbors: for each face the set of the faces beside it. No condition but a whole window. -/
import Derived.Test.YtabgcpoaepafjaaGreatOuter
import Derived.BigRegion
import Derived.Test.YtabgcpoaepafjaaGreatGeo
import Derived.Test.YtabgcpoaepafjaaGreatMem
set_option linter.unusedSimpArgs false
set_option linter.unusedVariables false
namespace Go.Proofs.YtabgcpoaepafjaaGreat
open Go.RowKit

noncomputable def nearV (N E : List P2) (f : Nat) : Nat := nearTo (sd N E) E.length f
theorem sd_lt {N E : List P2} (h : wholeB N E = true) (d : Nat) : sd N E d < (fcs N E).length := sideTo_lt _ d _ (fcs_facts h).1
theorem near_step {s : Nat → Nat} {k : Nat} (hne : s (2 * k) ≠ s (2 * k + 1)) : (fun f => if f = s (2 * k + 1) then ((nearTo s k (s (2 * k + 1)) ||| 2 ^ s (2 * k) : Nat) : Int) else if f = s (2 * k) then ((nearTo s k (s (2 * k)) ||| 2 ^ s (2 * k + 1) : Nat) : Int) else ((nearTo s k f : Nat) : Int)) = fun f => ((nearTo s (k + 1) f : Nat) : Int) := by
  funext f
  simp only [nearTo]
  rw [if_neg hne]
  by_cases h1 : f = s (2 * k)
  · subst h1
    rw [if_neg hne, if_pos rfl, if_pos rfl]
  · rw [if_neg h1]
    by_cases h2 : f = s (2 * k + 1)
    · subst h2
      rw [if_pos rfl, if_neg h1, if_pos rfl]
    · rw [if_neg h2, if_neg h1, if_neg h2]
theorem near_same {s : Nat → Nat} {k : Nat} (he : s (2 * k) = s (2 * k + 1)) : (fun f => ((nearTo s k f : Nat) : Int)) = fun f => ((nearTo s (k + 1) f : Nat) : Int) := by
  funext f
  simp only [nearTo]
  rw [if_pos he]
theorem or_shl {u f : Nat} (hu : u < 2 ^ 60) (hf : f < 60) : bits .or .i64 (u : Int) (IntKind.i64.wrap ((2 : Int) ^ f)) = ((u ||| 2 ^ f : Nat) : Int) := by
  have h1 : 2 ^ f < 2 ^ 60 := Nat.pow_lt_pow_right (by decide) hf
  rw [shl_one (by omega), i64_or _ _ (by omega) (by omega)]
theorem wrap64_eq (n : Int) : wrap64 n = IntKind.i64.wrap n := by simp only [wrap64, IntKind.wrap_i64]
end Go.Proofs.YtabgcpoaepafjaaGreat
namespace Go.Proofs.YtabgcpoaepafjaaGreat
open Go.RowKit

/-- The outer face of a whole window. -/
noncomputable def oN (N E : List P2) : Nat := (fcs N E).findIdx (fun l => decide (areaL N E l ≤ 0))
theorem outer_nat {N E : List P2} (h : wholeB N E = true) : outerI N E = (oN N E : Nat) ∧ oN N E < (fcs N E).length := by
  have hf := fcs_facts h
  have e : fcs N E = facesL N E := by unfold fcs; rw [if_pos h]
  obtain ⟨l, hl, ha⟩ := outer_some (N := N) (E := E) (by omega)
  rw [← e] at hl
  have hlt : oN N E < (fcs N E).length := List.findIdx_lt_length_of_exists ⟨l, hl, by simpa using ha⟩
  refine ⟨?_, hlt⟩
  unfold oN at hlt ⊢
  unfold outerI
  rw [if_pos hlt]
/-- The set of all faces but face o. -/
def panesN (n o : Nat) : Nat := (2 ^ n - 1) ^^^ ((2 ^ n - 1) &&& 2 ^ o)
theorem panes_bit (n o i : Nat) : (panesN n o).testBit i = (decide (i < n) && !decide (i = o)) := by
  unfold panesN
  rw [Nat.testBit_xor, Nat.testBit_and, Nat.testBit_two_pow_sub_one, Nat.testBit_two_pow, show decide (o = i) = decide (i = o) from by rw [decide_eq_decide]; exact eq_comm]
  cases decide (i < n) <;> cases decide (i = o) <;> rfl
theorem panes_lt (n o : Nat) : panesN n o < 2 ^ n := by
  refine Nat.lt_pow_two_of_testBit _ fun i hi => ?_
  rw [panes_bit]
  simp
  omega
theorem pow_word {n : Nat} (hn : n < 62) : IntKind.i64.wrap ((2 : Int) ^ n) = ((2 ^ n : Nat) : Int) := shl_one hn
theorem pow_pred {n : Nat} (hn : n < 62) : IntKind.i64.wrap (IntKind.i64.wrap ((2 : Int) ^ n) - 1) = ((2 ^ n - 1 : Nat) : Int) := by
  have h : 2 ^ n < 2 ^ 62 := Nat.pow_lt_pow_right (by decide) hn
  have h0 : 0 < 2 ^ n := Nat.two_pow_pos n
  rw [shl_one hn, IntKind.wrap_i64]
  omega
theorem panes_word {n o : Nat} (hn : n ≤ 40) (ho : o < n) : bits .andNot .i64 (IntKind.i64.wrap (IntKind.i64.wrap ((2 : Int) ^ n) - 1)) (IntKind.i64.wrap ((2 : Int) ^ o)) = (panesN n o : Nat) := by
  have h : 2 ^ n ≤ 2 ^ 40 := Nat.pow_le_pow_right (by decide) hn
  have h1 : 2 ^ o < 2 ^ n := Nat.pow_lt_pow_right (by decide) ho
  rw [pow_pred (by omega), shl_one (by omega), i64_andNot _ _ (by omega) (by omega)]
  rfl
end Go.Proofs.YtabgcpoaepafjaaGreat
namespace Go.Proofs.YtabgcpoaepafjaaGreat

/-- The set of the first k of the numbers F. -/
def setTo (F : Nat → Nat) : Nat → Nat
  | 0 => 0
  | k + 1 => setTo F k ||| 2 ^ F k
theorem setTo_bit {F : Nat → Nat} {j : Nat} : ∀ k, (setTo F k).testBit j = true ↔ ∃ i, i < k ∧ F i = j
  | 0 => by simp [setTo]
  | k + 1 => by
    simp only [setTo]
    rw [or_bit, setTo_bit k]
    constructor
    · rintro (⟨i, h1, h2⟩ | h)
      · exact ⟨i, by omega, h2⟩
      · exact ⟨k, by omega, h⟩
    · rintro ⟨i, h1, h2⟩
      rcases Nat.lt_or_ge i k with h | h
      · exact .inl ⟨i, h, h2⟩
      · have : i = k := by omega
        subst this
        exact .inr h2
theorem setTo_lt {F : Nat → Nat} {n : Nat} : ∀ k, (∀ j, j < k → F j < n) → setTo F k < 2 ^ n
  | 0, _ => Nat.two_pow_pos n
  | k + 1, h => sub_set_lt (setTo_lt k fun j hj => h j (by omega)) (h k (by omega))
theorem memN_nodup (s n : Nat) : (memN s n).Nodup := List.Pairwise.filter _ List.nodup_range
theorem setTo_count {F : Nat → Nat} {n k : Nat} (h : ∀ j, j < k → F j < n) (hd : ∀ j, j < k → ∀ i, i < j → F i ≠ F j) : (memN (setTo F k) n).length = k := by
  have h1 : ((List.range k).map F).Nodup := by
    refine List.pairwise_map.2 (List.Pairwise.imp_of_mem (R := fun a b => a < b) (fun {a b} _ hb hab => ?_) List.pairwise_lt_range)
    exact hd b (List.mem_range.1 hb) a hab
  have h2 : (memN (setTo F k) n).Perm ((List.range k).map F) := by
    refine (List.perm_ext_iff_of_nodup (memN_nodup _ _) h1).2 fun x => ?_
    rw [memN_mem, setTo_bit, List.mem_map]
    constructor
    · rintro ⟨_, i, hi, rfl⟩
      exact ⟨i, List.mem_range.2 hi, rfl⟩
    · rintro ⟨i, hi, rfl⟩
      have := List.mem_range.1 hi
      exact ⟨h i this, i, this, rfl⟩
  rw [h2.length_eq]
  simp
theorem panes_count {n o : Nat} (ho : o < n) : (memN (panesN n o) n).length = n - 1 := by
  have h2 : (memN (panesN n o) n).Perm ((List.range n).erase o) := by
    refine (List.perm_ext_iff_of_nodup (memN_nodup _ _) (List.nodup_range.erase _)).2 fun x => ?_
    rw [memN_mem, panes_bit, List.Nodup.mem_erase_iff List.nodup_range, List.mem_range]
    simp
    omega
  rw [h2.length_eq, List.length_erase_of_mem (List.mem_range.2 ho)]
  simp
/-- The first k numbers are set one by one: each a face, each new, each beside one before it. -/
def StepI (b : Nat → Nat → Bool) (R : Nat → Bool) (F : Nat → Nat) (k : Nat) : Prop := ∀ j, j < k → R j = true ∧ (∀ i, i < j → F i ≠ F j) ∧ (j = 0 ∨ ∃ i, i < j ∧ b (F i) (F j) = true)
def AsmOk (b : Nat → Nat → Bool) (R : Nat → Bool) (F : Nat → Nat) (n o m : Nat) : Prop := m + 1 = n ∧ StepI b R F m ∧ ∀ j, j < m → F j ≠ o
theorem StepI.next {b : Nat → Nat → Bool} {R : Nat → Bool} {F : Nat → Nat} {k : Nat} (h : StepI b R F k) (h1 : R k = true) (h2 : (setTo F k).testBit (F k) = false) (h3 : k = 0 ∨ ∃ i, i < k ∧ b (F i) (F k) = true) : StepI b R F (k + 1) := by
  intro j hj
  rcases Nat.lt_or_ge j k with hlt | hge
  · exact h j hlt
  · have : j = k := by omega
    subst this
    refine ⟨h1, fun i hi e => ?_, h3⟩
    have : (setTo F j).testBit (F j) = true := (setTo_bit j).2 ⟨i, hi, e⟩
    rw [h2] at this
    cases this
theorem asm_no {b : Nat → Nat → Bool} {R : Nat → Bool} {F : Nat → Nat} {n o m k : Nat} (hk : k < m) (h : R k = false ∨ (setTo F k).testBit (F k) = true ∨ F k = o ∨ (k ≠ 0 ∧ ∀ i, i < k → b (F i) (F k) = false)) : ¬ AsmOk b R F n o m := by
  rintro ⟨_, h2, h3⟩
  obtain ⟨g1, g2, g3⟩ := h2 k hk
  rcases h with h | h | h | ⟨h, h'⟩
  · rw [h] at g1; cases g1
  · obtain ⟨i, hi, e⟩ := (setTo_bit k).1 h
    exact g2 i hi e
  · exact h3 k hk h
  · rcases g3 with g3 | ⟨i, hi, e⟩
    · exact h g3
    · rw [h' i hi] at e; cases e
/-- At the end: the set of the faces is the set of the panes just if they are as many, and the outer face is none of them. -/
theorem asm_end {b : Nat → Nat → Bool} {R : Nat → Bool} {F : Nat → Nat} {n o m : Nat} (ho : o < n) (hR : ∀ j, R j = true → F j < n) (h : StepI b R F m) : setTo F m = panesN n o ↔ AsmOk b R F n o m := by
  have hlt : ∀ j, j < m → F j < n := fun j hj => hR j (h j hj).1
  have hc := setTo_count hlt fun j hj => (h j hj).2.1
  have hp := panes_count ho
  constructor
  · intro e
    rw [e, hp] at hc
    refine ⟨by omega, h, fun j hj e2 => ?_⟩
    have h1 : (setTo F m).testBit o = true := (setTo_bit m).2 ⟨j, hj, e2⟩
    rw [e, panes_bit] at h1
    simp at h1
  · rintro ⟨h1, _, h3⟩
    have hsub : Sub (setTo F m) (panesN n o) := fun i hi => by
      obtain ⟨j, hj, rfl⟩ := (setTo_bit m).1 hi
      rw [panes_bit]
      simp [hlt j hj, h3 j hj]
    by_cases e : panesN n o = setTo F m
    · exact e.symm
    · have := bits_count (setTo_lt m hlt) (panes_lt n o) hsub e
      omega
/-- Beside one of the first i. -/
def besideTo (b : Nat → Nat → Bool) (F : Nat → Nat) (k : Nat) : Nat → Bool
  | 0 => decide (k = 0)
  | i + 1 => besideTo b F k i || b (F i) (F k)
theorem besideTo_iff {b : Nat → Nat → Bool} {F : Nat → Nat} {k : Nat} : ∀ i, besideTo b F k i = true ↔ k = 0 ∨ ∃ j, j < i ∧ b (F j) (F k) = true
  | 0 => by simp [besideTo]
  | i + 1 => by
    simp only [besideTo, Bool.or_eq_true]
    rw [besideTo_iff i]
    constructor
    · rintro ((h | ⟨j, h1, h2⟩) | h)
      · exact .inl h
      · exact .inr ⟨j, by omega, h2⟩
      · exact .inr ⟨i, by omega, h⟩
    · rintro (h | ⟨j, h1, h2⟩)
      · exact .inl (.inl h)
      · rcases Nat.lt_or_ge j i with q | q
        · exact .inl (.inr ⟨j, q, h2⟩)
        · have : j = i := by omega
          subst this
          exact .inr h2
theorem near_ne {b : Nat → Nat → Bool} {F nf : Nat → Nat} {k : Nat} (hb : ∀ a c, b a c = b c a) (hn : ∀ f g, (nf f).testBit g = b f g) : nf (F k) &&& setTo F k ≠ 0 ↔ ∃ i, i < k ∧ b (F i) (F k) = true := by
  rw [and_ne]
  constructor
  · rintro ⟨j, h1, h2⟩
    obtain ⟨i, hi, rfl⟩ := (setTo_bit k).1 h2
    rw [hn, hb] at h1
    exact ⟨i, hi, h1⟩
  · rintro ⟨i, hi, h⟩
    exact ⟨F i, by rw [hn, hb]; exact h, (setTo_bit k).2 ⟨i, hi, rfl⟩⟩
end Go.Proofs.YtabgcpoaepafjaaGreat
namespace Go.Proofs.YtabgcpoaepafjaaGreat
open Go.RowKit

/-- The table f with one place changed. -/
def updB (f : Nat → Nat → Bool) (i j : Nat) (v : Bool) : Nat → Nat → Bool := fun a b => if a = i ∧ b = j then v else f a b
theorem updB_same (f : Nat → Nat → Bool) (i j : Nat) (v : Bool) : updB f i j v i j = v := by simp [updB]
theorem updB_ne (f : Nat → Nat → Bool) (i j : Nat) (v : Bool) {a b : Nat} (h : a ≠ i ∨ b ≠ j) : updB f i j v a b = f a b := by
  unfold updB
  rw [if_neg (by omega)]
/-- A row of bools. -/
def rowB (n : Nat) (f : Nat → Bool) : List Value := (List.range n).map fun j => Value.bool (f j)
theorem rowB_get {n j : Nat} (f : Nat → Bool) (h : j < n) : (rowB n f)[j]? = some (.bool (f j)) := by simp [rowB, h]
theorem rowB_length (n : Nat) (f : Nat → Bool) : (rowB n f).length = n := by simp [rowB]
theorem rowB_set {n j : Nat} (f : Nat → Bool) (v : Bool) (h : j < n) : (rowB n f).set j (.bool v) = rowB n (fun k => if k = j then v else f k) := by
  apply List.ext_getElem?
  intro k
  by_cases hk : k = j
  · subst hk
    rw [List.getElem?_set_self (by rw [rowB_length]; exact h), rowB_get _ h]
    simp
  · rw [List.getElem?_set_ne (fun e => hk e.symm)]
    by_cases hkn : k < n
    · rw [rowB_get _ hkn, rowB_get _ hkn]
      simp [hk]
    · rw [List.getElem?_eq_none (by rw [rowB_length]; omega), List.getElem?_eq_none (by rw [rowB_length]; omega)]
theorem rowB_zero (n : Nat) : List.replicate n (Value.bool false) = rowB n (fun _ => false) := by
  apply List.ext_getElem?
  intro k
  by_cases hkn : k < n
  · rw [rowB_get _ hkn]
    simp [hkn]
  · rw [List.getElem?_eq_none (by simp; omega), List.getElem?_eq_none (by rw [rowB_length]; omega)]
/-- Block hd holds n headers at least; the first n rows, of n bools each, read as f; all blocks lie below U. -/
def MatB (w : World) (B U hd n : Nat) (Th Te : TypeId) (f : Nat → Nat → Bool) : Prop :=
  ∃ (G : Nat → Nat) (hs : List Value), B ≤ hd ∧ hd < U ∧ Blk w hd Th hs ∧ n ≤ hs.length ∧ (∀ i, i < n → hs[i]? = some (.slice (some ⟨G i, 0, none⟩) n n) ∧ B ≤ G i ∧ G i < U ∧ G i ≠ hd ∧ Blk w (G i) Te (rowB n (f i))) ∧ (∀ i j, i < n → j < n → G i = G j → i = j)
section
variable {w w' : World} {B U hd n : Nat} {Th Te : TypeId} {f f' : Nat → Nat → Bool}
theorem MatB.ext (h : MatB w B U hd n Th Te f) (hE : Ext w w') : MatB w' B U hd n Th Te f := by
  obtain ⟨G, hs, h1, h0, h2, h3, h5, h6⟩ := h
  exact ⟨G, hs, h1, h0, h2.ext hE, h3, fun i hi => ⟨(h5 i hi).1, (h5 i hi).2.1, (h5 i hi).2.2.1, (h5 i hi).2.2.2.1, (h5 i hi).2.2.2.2.ext hE⟩, h6⟩
theorem MatB.mono {B' U' : Nat} (h : MatB w B U hd n Th Te f) (hB : B' ≤ B) (hU : U ≤ U') : MatB w B' U' hd n Th Te f := by
  obtain ⟨G, hs, h1, h0, h2, h3, h5, h6⟩ := h
  exact ⟨G, hs, by omega, by omega, h2, h3, fun i hi => ⟨(h5 i hi).1, Nat.le_trans hB (h5 i hi).2.1, Nat.lt_of_lt_of_le (h5 i hi).2.2.1 hU, (h5 i hi).2.2.2⟩, h6⟩
theorem MatB.lt (h : MatB w B U hd n Th Te f) : B ≤ hd ∧ hd < U ∧ hd < w.heap.size := by
  obtain ⟨G, hs, h1, h0, h2, _⟩ := h
  exact ⟨h1, h0, h2.lt⟩
/-- A place of the table: its header, its cell, and what a store there leaves. -/
theorem MatB.at_ (h : MatB w B U hd n Th Te f) {i j : Nat} (hi : i < n) (hj : j < n) : ∃ g, w.cell? ⟨hd, i, none⟩ = some (.slice (some ⟨g, 0, none⟩) n n) ∧ w.cell? ⟨g, j, none⟩ = some (.bool (f i j)) ∧ w.frozen? ⟨g, j, none⟩ = false ∧
    B ≤ g ∧ g < U ∧ g < w.heap.size ∧ ∀ v, MatB (w.setCell ⟨g, j, none⟩ (.bool v)) B U hd n Th Te (updB f i j v) := by
  obtain ⟨G, hs, h1, h0, h2, h3, h5, h6⟩ := h
  obtain ⟨e1, e2, e0, e3, e4⟩ := h5 i hi
  refine ⟨G i, by rw [h2.cell, e1], by rw [e4.cell, rowB_get _ hj], e4.free _, e2, e0, e4.lt, fun v => ?_⟩
  refine ⟨G, hs, h1, h0, h2.other (fun e => e3 e.symm) _, h3, fun k hk => ⟨(h5 k hk).1, (h5 k hk).2.1, (h5 k hk).2.2.1, (h5 k hk).2.2.2.1, ?_⟩, h6⟩
  by_cases hki : k = i
  · subst hki
    have := e4.set j (.bool v)
    rw [rowB_set _ _ hj] at this
    have e : (fun b => if b = j then v else f k b) = updB f k j v k := by
      funext b
      simp [updB]
    rw [← e]
    exact this
  · have e : f k = updB f i j v k := by
      funext b
      rw [updB_ne _ _ _ _ (.inl hki)]
    rw [← e]
    exact (h5 k hk).2.2.2.2.other (fun e => hki (h6 k i hk hi e)) _
end
/-- A row of k headers that grows, each header's row of n zeros in a block of its own. -/
def HdrB (w : World) (B : Nat) (v : Value) (k n : Nat) (Th Te : TypeId) : Prop :=
  ∃ G : Nat → Nat, w.ownsRow B Th 1 v k ((List.range k).map fun i => Value.slice (some ⟨G i, 0, none⟩) n n) ∧ (∀ i, i < k → B ≤ G i ∧ v.ownBlock ≠ some (G i) ∧ Blk w (G i) Te (List.replicate n (Value.bool false))) ∧ ∀ i j, i < k → j < k → G i = G j → i = j
theorem HdrB.step {w w2 w4 : World} {B k n g : Nat} {v v' : Value} {Th Te : TypeId} {G : Nat → Nat} (h1 : w.ownsRow B Th 1 v k ((List.range k).map fun i => Value.slice (some ⟨G i, 0, none⟩) n n)) (h2 : ∀ i, i < k → B ≤ G i ∧ v.ownBlock ≠ some (G i) ∧ Blk w (G i) Te (List.replicate n (Value.bool false))) (h3 : ∀ i j, i < k → j < k → G i = G j → i = j) (hE : Ext w w2) (hg : g = w.heap.size) (hB : B ≤ w.heap.size) (hb : Blk w2 g Te (List.replicate n (Value.bool false)))
    (hgr : (w2.alloc (.cells #[Value.slice (some ⟨g, 0, none⟩) n n] Th)).grownBy w4 v.ownBlock) (hv : v'.ownBlock = v.ownBlock ∨ v'.ownBlock = some (w2.alloc (.cells #[Value.slice (some ⟨g, 0, none⟩) n n] Th)).heap.size)
    (how : w4.ownsRow B Th 1 v' (k + 1) ((List.range k).map (fun i => Value.slice (some ⟨G i, 0, none⟩) n n) ++ [Value.slice (some ⟨g, 0, none⟩) n n])) : HdrB w4 B v' (k + 1) n Th Te := by
  have hlt : ∀ i, i < k → G i < w.heap.size := fun i hi => (h2 i hi).2.2.lt
  have hgl := hb.lt
  have hsz := hE.size
  have hne : ∀ x, x < w2.heap.size → v.ownBlock ≠ some x → v'.ownBlock ≠ some x := by
    intro x hx hn e
    rcases hv with e' | e'
    · rw [e'] at e
      exact hn e
    · rw [e'] at e
      injection e with e
      simp at e
      omega
  have hvg : v.ownBlock ≠ some g := by
    intro e
    have := (h1.lt g e).2
    omega
  refine ⟨fun i => if i = k then g else G i, ?_, fun i hi => ?_, fun i j hi hj e => ?_⟩
  · have := how
    have e : (List.range (k + 1)).map (fun i => Value.slice (some ⟨if i = k then g else G i, 0, none⟩) n n) = (List.range k).map (fun i => Value.slice (some ⟨G i, 0, none⟩) n n) ++ [Value.slice (some ⟨g, 0, none⟩) n n] := by
      rw [List.range_succ, List.map_append]
      congr 1
      · apply List.map_congr_left
        intro i hi
        have := List.mem_range.1 hi
        rw [if_neg (by omega)]
      · simp
    rw [e]
    exact this
  · by_cases hik : i = k
    · subst hik
      simp only [if_true]
      exact ⟨by omega, hne g hgl hvg, (hb.ext ((Ext.refl _).alloc _)).grown hgr hvg⟩
    · simp only [hik, if_false]
      obtain ⟨e1, e2, e3⟩ := h2 i (by omega)
      exact ⟨e1, hne _ (Nat.lt_of_lt_of_le e3.lt hsz) e2, ((e3.ext hE).ext ((Ext.refl _).alloc _)).grown hgr e2⟩
  · have a1 := hlt i
    have a2 := hlt j
    have a3 := h3 i j
    by_cases hik : i = k <;> by_cases hjk : j = k <;> simp [hik, hjk] at e <;> omega
theorem HdrB.mat {w : World} {B k : Nat} {v : Value} {Th Te : TypeId} (h : HdrB w B v k k Th Te) (hk : 0 < k) : ∃ hd c, v = .slice (some ⟨hd, 0, none⟩) k c ∧ k ≤ c ∧ MatB w B w.heap.size hd k Th Te (fun _ _ => false) := by
  obtain ⟨G, h1, h2, h3⟩ := h
  obtain ⟨A, c, rfl, hc, h4, h5⟩ := own_slice h1
  cases A with
  | none => exact absurd (h4 rfl) (by omega)
  | some a =>
    obtain ⟨g, rfl, h6, h7, h8⟩ := h5 a rfl
    obtain ⟨cs, b1, b2, b3, b4⟩ := Blk.of_own h1
    refine ⟨g, c, rfl, hc, G, cs, h6, h7, b1, by omega, fun i hi => ?_, h3⟩
    obtain ⟨e1, e2, e3⟩ := h2 i hi
    refine ⟨?_, e1, e3.lt, fun e => e2 (by rw [h8, e]), ?_⟩
    · have : (cs.take (k * 1))[i]? = some (Value.slice (some ⟨G i, 0, none⟩) k k) := by rw [b2]; simp [hi]
      rw [List.getElem?_take_of_lt (by omega)] at this
      exact this
    · rw [← rowB_zero]
      exact e3
end Go.Proofs.YtabgcpoaepafjaaGreat
namespace Go.Proofs.YtabgcpoaepafjaaGreat
open Go.RowKit

theorem bes_step {s : Nat → Nat} {k : Nat} (hne : s (2 * k) ≠ s (2 * k + 1)) : updB (updB (besTo s k) (s (2 * k)) (s (2 * k + 1)) true) (s (2 * k + 1)) (s (2 * k)) true = besTo s (k + 1) := by
  funext a b
  simp only [updB, besTo]
  by_cases h1 : a = s (2 * k + 1) ∧ b = s (2 * k)
  · rw [if_pos h1]
    simp [hne, h1.1, h1.2]
  · rw [if_neg h1]
    by_cases h2 : a = s (2 * k) ∧ b = s (2 * k + 1)
    · rw [if_pos h2]
      simp [hne, h2.1, h2.2]
    · rw [if_neg h2]
      have e1 : (decide (a = s (2 * k + 1)) && decide (b = s (2 * k))) = false := by rw [← Bool.decide_and, decide_eq_false h1]
      have e2 : (decide (a = s (2 * k)) && decide (b = s (2 * k + 1))) = false := by rw [← Bool.decide_and, decide_eq_false h2]
      rw [e1, e2]
      simp
theorem bes_same {s : Nat → Nat} {k : Nat} (he : s (2 * k) = s (2 * k + 1)) : besTo s k = besTo s (k + 1) := by
  funext a b
  simp [besTo, he]
theorem made_falses (n : Nat) : (madeCells (Value.bool false).cells (n * 1)).toList = List.replicate n (Value.bool false) := by
  rw [Nat.mul_one]
  exact toList_madeCells_one _ _
theorem rowb_info : (Tryz.prog.info? 90).map (fun i => (i.zero, i.size, i.bytes)) = some (some (.slice none 0 0), 1, 24) := by kernel_rfl
theorem matTop {w : World} {B U hd n : Nat} {Th Te : TypeId} {f : Nat → Nat → Bool} (h : MatB w B U hd n Th Te f) : MatB w B w.heap.size hd n Th Te f := by
  obtain ⟨G, hs, h1, h0, h2, h3, h5, h6⟩ := h
  exact ⟨G, hs, h1, h2.lt, h2, h3, fun i hi => ⟨(h5 i hi).1, (h5 i hi).2.1, (h5 i hi).2.2.2.2.lt, (h5 i hi).2.2.2⟩, h6⟩
theorem matSetk {w : World} {B U hd n k i : Nat} {u : Value} {Th Te : TypeId} {f : Nat → Nat → Bool} (h : MatB w B U hd n Th Te f) (hk : U ≤ k) : MatB (w.setCell ⟨k, i, none⟩ u) B U hd n Th Te f := by
  obtain ⟨G, hs, h1, h0, h2, h3, h5, h6⟩ := h
  exact ⟨G, hs, h1, h0, h2.other (by omega) _, h3, fun j hj => ⟨(h5 j hj).1, (h5 j hj).2.1, (h5 j hj).2.2.1, (h5 j hj).2.2.2.1, (h5 j hj).2.2.2.2.other (by have := (h5 j hj).2.2.1; omega) _⟩, h6⟩
end Go.Proofs.YtabgcpoaepafjaaGreat
namespace Go.Proofs.YtabgcpoaepafjaaGreat
open Go.RowKit

/-- A set of panes that hang together. -/
noncomputable def joinedI (N E : List P2) (set : Int) : Bool := decide (1 ≤ (fcs N E).length) && (decide ((fcs N E).length ≤ 20) && (inR set 1 ((2 ^ (fcs N E).length - 1 : Nat) : Int) && (!set.toNat.testBit (oN N E) && joinedB (besTo (sd N E) E.length) set.toNat (fcs N E).length)))
theorem and_neg {s n : Nat} (h0 : s ≠ 0) (h : s < 2 ^ n) (hn : n ≤ 60) : bits .and .i64 (s : Int) (IntKind.i64.wrap (-(s : Int))) = ((2 ^ lowOf s n : Nat) : Int) := by
  have hp : 2 ^ n ≤ 2 ^ 60 := Nat.pow_le_pow_right (by decide) hn
  have hl := (low_facts n s h0 h).2.1
  have hl2 : 2 ^ lowOf s n < 2 ^ n := Nat.pow_lt_pow_right (by decide) hl
  have e : (BitVec.ofInt 64 (s : Int) &&& BitVec.ofInt 64 (IntKind.i64.wrap (-(s : Int)))).toNat = 2 ^ lowOf s n := by
    rw [← low_bit h0 h (by omega), BitVec.toNat_and]
    congr 1
    · rw [BitVec.ofInt_natCast, BitVec.toNat_ofNat, Nat.mod_eq_of_lt (by omega)]
    · rw [BitVec.toNat_ofInt, IntKind.wrap_i64]
      omega
  show IntKind.i64.wrap ((BitVec.ofInt 64 (s : Int) &&& BitVec.ofInt 64 (IntKind.i64.wrap (-(s : Int)))).toNat : Nat) = _
  rw [e, IntKind.wrap_i64]
  omega
/-- A set lies in the set of panes just if it has not the outer face. -/
theorem panes_sub {n o s : Nat} (hs : s < 2 ^ n) : (s ^^^ (s &&& panesN n o) = 0) ↔ s.testBit o = false := by
  constructor
  · intro h
    have := congrArg (fun x => Nat.testBit x o) h
    simpa [panes_bit] using this
  · intro h
    refine Nat.eq_of_testBit_eq fun i => ?_
    rw [Nat.testBit_xor, Nat.testBit_and, panes_bit, Nat.zero_testBit]
    cases hb : s.testBit i with
    | false => rfl
    | true =>
      have h1 := bit_lt hs hb
      have h2 : i ≠ o := fun e => by rw [e, h] at hb; cases hb
      simp [h1, h2]
theorem in_nat {set : Int} {P : Nat} (h : inR set 1 ((P - 1 : Nat) : Int) = true) : ∃ s : Nat, set = (s : Nat) ∧ s ≠ 0 ∧ s < P := by
  simp [inR] at h
  exact ⟨set.toNat, by omega, by omega, by omega⟩
theorem int_beq (a b : Nat) : ((a : Int) == (b : Int)) = (a == b) := by rw [Bool.eq_iff_iff]; simp; omega
end Go.Proofs.YtabgcpoaepafjaaGreat
namespace Go.Proofs.YtabgcpoaepafjaaGreat
open Go.RowKit

end Go.Proofs.YtabgcpoaepafjaaGreat
