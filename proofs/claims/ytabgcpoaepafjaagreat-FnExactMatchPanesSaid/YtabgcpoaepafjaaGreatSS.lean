/- Words for lists of lists of nodes: how they read, their opening as arguments, and the walks of the law's small functions over them. No condition but that the lists are not too long. -/
import Derived.Test.YtabgcpoaepafjaaGreatMem
set_option linter.unusedSimpArgs false
set_option linter.unusedVariables false
namespace Go.Proofs.YtabgcpoaepafjaaGreat
open Go.ChangeShapes Go.WideShapes Go.RowKit Go.Joins Go.Deep

/-- The slice of address A reads as headers of the rows L. -/
def RSS (w : World) (A : Option Addr) (L : List (List P2)) : Prop :=
  ∃ hs : List Value, Rds w 1 A L.length hs ∧ ∀ (i : Nat) (hi : i < L.length), ∃ (B : Option Addr) (c : Nat), hs[i]? = some (.slice B L[i].length c) ∧ L[i].length ≤ c ∧ c ≤ maxLen ∧ R2 w B L[i]
theorem RSS.ext {w w' : World} {A : Option Addr} {L : List (List P2)} (h : RSS w A L) (hE : Ext w w') : RSS w' A L := by
  obtain ⟨hs, h1, h2⟩ := h
  refine ⟨hs, h1.ext hE, fun i hi => ?_⟩
  obtain ⟨B, c, e1, e2, e3, e4⟩ := h2 i hi
  exact ⟨B, c, e1, e2, e3, Rds.ext e4 hE⟩
theorem RSS.at_ {w : World} {A : Option Addr} {L : List (List P2)} (h : RSS w A L) {k : Nat} (hk : k < L.length) : ∃ b off, A = some ⟨b, off, none⟩ ∧ b < w.heap.size ∧ ∃ (B : Option Addr) (c : Nat), w.cell? ⟨b, off + k, none⟩ = some (.slice B L[k].length c) ∧ L[k].length ≤ c ∧ c ≤ maxLen ∧ R2 w B L[k] := by
  obtain ⟨hs, h1, h2⟩ := h
  obtain ⟨b, off, e, hb, hc⟩ := h1.2 (by omega)
  obtain ⟨B, c, e1, e2, e3, e4⟩ := h2 k hk
  exact ⟨b, off, e, hb, B, c, hc _ _ e1, e2, e3, e4⟩
section
variable {H : Type} {enc : TypeId × Value → H} {P : Program} {w : World}
theorem open_sliceSS {t q e fi : TypeId} {f0 f1 : Field} {b0 : Nat} {v : Value} {d : DataW H} {p : List MemPlace} (ht : P.underlying t = some (.slice q)) (hq : P.underlying q = some (.slice e)) (he : P.underlying e = some (.struct #[f0, f1]))
    (h0 : f0.type = fi) (h1 : f1.type = fi) (hi : P.underlying fi = some (.int .i64)) (hone : oneCellFields P #[f0, f1] = true) (hC : P.cellsOf e = 2) (hCq : P.cellsOf q = 1)
    (hv : Value.okWide P w .any b0 t v) (h : DataW.Trod enc P w 0 (fun _ => true) true t v d p) :
    ∃ (A : Option Addr) (c : Nat) (L : List (List P2)), v = .slice A L.length c ∧ L.length ≤ c ∧ c ≤ maxLen ∧ RSS w A L := by
  obtain ⟨a0, len, cap, rfl⟩ := okWide_slice ht hv
  obtain ⟨fuel, hf⟩ := h
  rcases open_slice1 ht hCq hf with ⟨hcs, _⟩ | ⟨a, len', cap', m, n, V, D, Pl, hcs, _, hl, hm, hmm, _, hx⟩
  · have e1 : Value.slice a0 len cap = .slice none 0 0 := by simpa [Value.cells] using hcs
    injection e1 with e1 e2 e3
    subst e1 e2 e3
    exact ⟨none, 0, [], rfl, Nat.le_refl _, Nat.zero_le _, [], Rds.nil_, fun i hi => absurd hi (by simp)⟩
  · have e1 : Value.slice a0 len cap = .slice (some a) len' cap' := by simpa [Value.cells] using hcs
    injection e1 with e1 e2 e3
    subst e1 e2 e3
    simp only [if_true] at hmm
    subst hmm
    have each : ∀ i, i < m → ∃ y : List P2 × Option Addr × Nat, V i = .slice y.2.1 y.1.length y.2.2 ∧ y.1.length ≤ y.2.2 ∧ y.2.2 ≤ maxLen ∧ R2 w y.2.1 y.1 := by
      intro i hi'
      obtain ⟨A, c, l, e1, e2, e3, e4⟩ := trod_slice2 hq he h0 h1 hi hone hC (hx i hi').2
      exact ⟨(l, A, c), by simpa using e1, e2, e3, e4⟩
    obtain ⟨y, hy⟩ := choose_lt each
    have hlen : ((List.range len).map fun i => (y i).1).length = len := by simp
    refine ⟨some a, m, (List.range len).map fun i => (y i).1, by rw [hlen], by rw [hlen]; exact hl, hm, (List.range len).map V, ⟨by simp, fun hn => ?_⟩, fun i hi' => ?_⟩
    · rw [hlen] at hn
      obtain ⟨b, off, rfl⟩ := addr_plain (by simpa using (hx 0 (by omega)).1)
      have c0 := (hx 0 (by omega)).1
      rw [Go.WideShapes.add_plain] at c0
      refine ⟨b, off, rfl, cell_lt c0, fun j u hu => ?_⟩
      have hj : j < len := by have := (List.getElem?_eq_some_iff.1 hu).1; simpa using this
      have cj := (hx j (by omega)).1
      rw [Go.WideShapes.add_plain] at cj
      rw [cj]
      simp [hj] at hu
      rw [hu]
    · rw [hlen] at hi'
      obtain ⟨e1, e2, e3, e4⟩ := hy i (by omega)
      refine ⟨(y i).2.1, (y i).2.2, ?_, ?_, ?_, ?_⟩
      · simp [hi', e1]
      · simpa using e2
      · exact e3
      · simpa using e4
end

/-- Blocks below lo and from hi on are as they were. -/
structure Rng (lo hi : Nat) (w w' : World) : Prop where
  os : w'.os = w.os
  tape : w'.tape = w.tape
  output : w'.output = w.output
  size : w.heap.size ≤ w'.heap.size
  block : ∀ k, k < w.heap.size → (k < lo ∨ hi ≤ k) → w'.heap[k]? = w.heap[k]?
theorem Rng.refl (lo hi : Nat) (w : World) : Rng lo hi w w := ⟨rfl, rfl, rfl, Nat.le_refl _, fun _ _ _ => rfl⟩
theorem Rng.trans {lo hi : Nat} {a b c : World} (h : Rng lo hi a b) (k : Rng lo hi b c) : Rng lo hi a c :=
  ⟨k.os.trans h.os, k.tape.trans h.tape, k.output.trans h.output, Nat.le_trans h.size k.size, fun i hi hr => (k.block i (Nat.lt_of_lt_of_le hi h.size) hr).trans (h.block i hi hr)⟩
theorem Rng.of_grown {lo hi : Nat} {w w' : World} {row : Option Nat} (h : w.grownBy w' row) (hr : ∀ k, row = some k → lo ≤ k ∧ k < hi) : Rng lo hi w w' :=
  ⟨h.os, h.tape, h.output, h.size, fun k hk hk2 => h.block k hk (fun e => by have := hr k e.symm; omega)⟩
theorem Rng.below {lo hi : Nat} {w w' a : World} (h : Rng lo hi w w') (hE : Ext a w) (hl : a.heap.size ≤ lo) : Ext a w' :=
  ⟨h.os.trans hE.os, h.tape.trans hE.tape, h.output.trans hE.output, Nat.le_trans hE.size h.size, fun k hk => (h.block k (Nat.lt_of_lt_of_le hk hE.size) (.inl (by omega))).trans (hE.block k hk)⟩
theorem Rng.own {lo hi : Nat} {w w' : World} (h : Rng lo hi w w') {base n sz : Nat} {T : TypeId} {v : Value} {xs : List Value} (ho : w.ownsRow base T sz v n xs) (hr : ∀ k, v.ownBlock = some k → k < lo ∨ hi ≤ k) : w'.ownsRow base T sz v n xs := by
  cases hv : v.ownBlock with
  | none =>
    rcases ho.2 with ⟨rfl, h0⟩ | ⟨g, c, cur, rfl, _⟩
    · exact ⟨ho.1, .inl ⟨rfl, h0⟩⟩
    · cases hv
  | some k =>
    have hk := ho.lt k hv
    have hs := h.size
    -- a world that differs from w in no block but those that turned
    rcases ho.2 with ⟨rfl, h0⟩ | ⟨g, c, cur, rfl, h1, h2, h3⟩
    · cases hv
    · have e : some g = some k := hv
      injection e with e
      subst e
      exact ⟨ho.1, .inr ⟨g, c, cur, rfl, h1, (h.block g hk.2 (hr g hv)).trans h2, h3⟩⟩
theorem Rng.rds {lo hi : Nat} {w w' : World} (h : Rng lo hi w w') {A : Option Addr} {k s : Nat} {zs : List Value} (hr : Rds w s A k zs) (hne : ∀ b off, A = some ⟨b, off, none⟩ → b < lo ∨ hi ≤ b) : Rds w' s A k zs :=
  hr.keep h.size fun b off e _ hb => h.block b hb (hne b off e)
theorem Rng.tr {lo hi : Nat} {w w' a : World} {bs : List (Nat × List Value)} (h : Rng lo hi w w') (hT : Tr bs a w) (hl : a.heap.size ≤ lo) (hb : ∀ p ∈ bs, p.1 < lo ∨ hi ≤ p.1) : Tr bs a w' := by
  refine ⟨?_, h.below hT.2 hl⟩
  have hT1 := hT.1
  clear hT
  induction bs with
  | nil => trivial
  | cons p bs ih =>
    obtain ⟨b, vs⟩ := p
    have hblk := h.block b hT1.1.1 (hb (b, vs) (by simp))
    refine ⟨⟨Nat.lt_of_lt_of_le hT1.1.1 h.size, fun i => ?_, ?_⟩, ih (fun q hq => hb q (by simp [hq])) hT1.2⟩
    · rw [← hT1.1.2.1 i]
      exact World.frozen?_of_block hblk
    · have hc := hT1.1.2.2
      clear ih hT1 hb
      generalize 0 = j at hc ⊢
      induction vs generalizing j with
      | nil => trivial
      | cons v vs ih2 => exact ⟨by rw [← hc.1]; exact World.cell?_of_block hblk, ih2 _ hc.2⟩
end Go.Proofs.YtabgcpoaepafjaaGreat
