/- Arguments that are slices of numbers, or of structs of numbers, opened: what they read as. No condition. -/
import Derived.Test.YtkgbilbicdiadaaMem
import Derived.ProofKit
import Derived.OpenShut
import Derived.Lib.SmallJoins
import Derived.Deep.Slices
import Derived.Deep.Fields
set_option linter.unusedSimpArgs false
set_option linter.unusedVariables false
namespace Go.Proofs.Ytkgbilbicdiadaa
open Go.ChangeShapes Go.WideShapes Go.RowKit Go.Joins Go.Deep

theorem cell_lt {w : World} {b o : Nat} {v : Value} (h : w.cell? ⟨b, o, none⟩ = some v) : b < w.heap.size := by
  rcases Nat.lt_or_ge b w.heap.size with hl | hg
  · exact hl
  · have : w.heap[b]? = none := Array.getElem?_eq_none hg
    simp [World.cell?, this] at h
section
variable {H : Type} {enc : TypeId × Value → H} {P : Program} {w : World} {base : Nat}

theorem open_sliceI {t e : TypeId} {b0 : Nat} {v : Value} {d : DataW H} {p : List MemPlace} (ht : P.underlying t = some (.slice e)) (he : P.underlying e = some (.int .i64)) (hC : P.cellsOf e = 1)
    (hv : Value.okWide P w .any b0 t v) (h : DataW.Trod enc P w 0 (fun _ => true) true t v d p) :
    ∃ (A : Option Addr) (c : Nat) (l : List Int), v = .slice A l.length c ∧ l.length ≤ c ∧ c ≤ maxLen ∧ RI w A l := by
  obtain ⟨a0, len, cap, rfl⟩ := okWide_slice ht hv
  obtain ⟨fuel, hf⟩ := h
  rcases open_ints ht he hC hf with ⟨hcs, _⟩ | ⟨a, len', cap', zs, hcs, _, hl, hm, hz, _, hc, _⟩
  · have e1 : Value.slice a0 len cap = .slice none 0 0 := by simpa [Value.cells] using hcs
    injection e1 with e1 e2 e3
    subst e1 e2 e3
    exact ⟨none, 0, [], rfl, Nat.le_refl _, Nat.zero_le _, Rds.nil_⟩
  · have e1 : Value.slice a0 len cap = .slice (some a) len' cap' := by simpa [Value.cells] using hcs
    injection e1 with e1 e2 e3
    subst e1 e2 e3
    simp only [if_true] at hz
    have hlen : (zs.take len).length = len := by simp; omega
    refine ⟨some a, cap, zs.take len, by rw [hlen], by omega, hm, by rw [encI_length, hlen]; omega, fun hn => ?_⟩
    rw [hlen] at hn
    obtain ⟨b, off, rfl, hcell⟩ := ints_at hc (by omega)
    refine ⟨b, off, rfl, cell_lt (hcell 0 (by omega)), fun j u hu => ?_⟩
    have hj : j < len := by
      have := (List.getElem?_eq_some_iff.1 hu).1
      simp [encI] at this; omega
    have hjz : j < zs.length := by omega
    have he2 := encI_get (zs.take len) j (by omega)
    rw [he2] at hu
    injection hu with hu
    subst hu
    rw [hcell j hjz]
    simp [hjz]

theorem addr_plain {w : World} {a : Addr} {v : Value} (h : w.cell? (a.add 0) = some v) : ∃ b off, a = ⟨b, off, none⟩ := by
  obtain ⟨b, off, spot⟩ := a
  have h2 : spot = none := by simpa [Addr.add] using World.cell?_spot h
  subst h2
  exact ⟨b, off, rfl⟩

/-- A slice of structs of one-cell fields: every field's cell and its own reading. -/
theorem open_fields {t e : TypeId} {fs : Array Field} {fuel : Nat} {cs : List Value} {x : DataW H × List MemPlace} (ht : P.underlying t = some (.slice e)) (he : P.underlying e = some (.struct fs))
    (hone : oneCellFields P fs = true) (hC : P.cellsOf e = fs.size) (h : DataW.trod enc P w base (fun _ => true) true fuel t cs = some x) :
    (cs = [.slice none 0 0]) ∨
    ∃ (a : Addr) (len cap : Nat), cs = [.slice (some a) len cap] ∧ len ≤ cap ∧ cap ≤ maxLen ∧
      ∀ i, i < cap → ∃ n : Nat, ∀ (j : Nat) (f : Field), fs[j]? = some f → ∃ (v : Value) (y : DataW H × List MemPlace), w.cell? (a.add (i * fs.size + j)) = some v ∧ DataW.trod enc P w base (fun _ => true) true n f.type [v] = some y := by
  rcases open_slice ht h with h0 | ⟨a, len, cap, m, n, D, Pl, hcs, hb, hl, hm, hmm, hx, hi⟩
  · exact .inl h0.1
  · simp only [if_true] at hmm
    subst hmm
    refine .inr ⟨a, len, m, hcs, hl, hm, fun i him => ?_⟩
    obtain ⟨cs', hc, ht'⟩ := hi i him
    rw [hC] at hc
    obtain ⟨ys, n', hn', hy, hlen, hyl, hf⟩ := DataW.trod_struct he ht'
    obtain ⟨_, hcl, hat⟩ := World.cells?_some hc
    refine ⟨n', fun j f hj => ?_⟩
    obtain ⟨ho, hk⟩ := hone_of hone j f hj
    have hjl : j < fs.size := (Array.getElem?_eq_some_iff.1 hj).1
    have hcell := hat j hjl
    have hv : cs'[j]? = some (cs'[j]'(by omega)) := List.getElem?_eq_getElem (by omega)
    have h1 := hf j f hj
    rw [ho, hk] at h1
    have hone' : (cs'.drop j).take 1 = [cs'[j]'(by omega)] := by
      rw [List.drop_eq_getElem_cons (by omega)]
      rfl
    rw [hone'] at h1
    have hys : ys[j]? = some (ys[j]'(by omega)) := List.getElem?_eq_getElem (by omega)
    refine ⟨_, _, ?_, h1.trans hys⟩
    rw [← Go.Deep.add_add, hcell, hv]

def intIn : Option Value → Int
  | some (.int _ q) => q
  | _ => 0

theorem int_cell {fi : TypeId} {n : Nat} {v : Value} {y : DataW H × List MemPlace} (hi : P.underlying fi = some (.int .i64)) (h : DataW.trod enc P w base (fun _ => true) true n fi [v] = some y) : ∃ q, v = .int .i64 q := by
  obtain ⟨q, e, _, _⟩ := DataW.trod_int hi h
  exact ⟨q, by simpa using e⟩

theorem trod_slice2 {t e fi : TypeId} {f0 f1 : Field} {fuel : Nat} {cs : List Value} {x : DataW H × List MemPlace} (ht : P.underlying t = some (.slice e)) (he : P.underlying e = some (.struct #[f0, f1]))
    (h0 : f0.type = fi) (h1 : f1.type = fi) (hi : P.underlying fi = some (.int .i64)) (hone : oneCellFields P #[f0, f1] = true) (hC : P.cellsOf e = 2)
    (hf : DataW.trod enc P w 0 (fun _ => true) true fuel t cs = some x) :
    ∃ (A : Option Addr) (c : Nat) (l : List P2), cs = [.slice A l.length c] ∧ l.length ≤ c ∧ c ≤ maxLen ∧ R2 w A l := by
  rcases open_fields ht he hone hC hf with rfl | ⟨a, len, cap, rfl, hl, hm, hc⟩
  · exact ⟨none, 0, [], rfl, Nat.le_refl _, Nat.zero_le _, Rds.nil_⟩
  · have cell : ∀ i, i < cap → ∃ q r, w.cell? (a.add (i * 2)) = some (.int .i64 q) ∧ w.cell? (a.add (i * 2 + 1)) = some (.int .i64 r) := by
      intro i hii
      obtain ⟨n, hn⟩ := hc i hii
      obtain ⟨v0, y0, c0, t0⟩ := hn 0 f0 rfl
      obtain ⟨v1, y1, c1, t1⟩ := hn 1 f1 rfl
      rw [h0] at t0
      rw [h1] at t1
      obtain ⟨q, rfl⟩ := int_cell hi t0
      obtain ⟨r, rfl⟩ := int_cell hi t1
      exact ⟨q, r, c0, c1⟩
    let l : List P2 := (List.range len).map fun i => (intIn (w.cell? (a.add (i * 2))), intIn (w.cell? (a.add (i * 2 + 1))))
    have hlen : l.length = len := by simp [l]
    refine ⟨some a, cap, l, by rw [hlen], by omega, hm, by rw [enc2_length], fun hn => ?_⟩
    rw [hlen] at hn
    obtain ⟨q0, r0, c0, _⟩ := cell 0 (by omega)
    obtain ⟨b, off, rfl⟩ := addr_plain (by simpa using c0)
    refine ⟨b, off, rfl, by rw [Go.WideShapes.add_plain] at c0; exact cell_lt c0, fun j u hu => ?_⟩
    have hj : j < l.length * 2 := by rw [← enc2_length]; exact (List.getElem?_eq_some_iff.1 hu).1
    have hjk : j / 2 < l.length := by omega
    obtain ⟨q, r, cq, cr⟩ := cell (j / 2) (by omega)
    have g := enc2_get l (j / 2) hjk
    have hlk : l[j / 2] = (q, r) := by simp [l, cq, cr, intIn]
    rw [hlk] at g
    rw [Go.WideShapes.add_plain] at cq cr
    rcases Nat.mod_two_eq_zero_or_one j with hm0 | hm1
    · have ej : j / 2 * 2 = j := by omega
      rw [ej] at g cq
      rw [g.1] at hu
      rw [← hu, cq]
    · have ej : j / 2 * 2 + 1 = j := by omega
      rw [ej] at g cr
      rw [g.2] at hu
      rw [← hu, cr]

theorem open_slice2 {t e fi : TypeId} {f0 f1 : Field} {b0 : Nat} {v : Value} {d : DataW H} {p : List MemPlace} (ht : P.underlying t = some (.slice e)) (he : P.underlying e = some (.struct #[f0, f1]))
    (h0 : f0.type = fi) (h1 : f1.type = fi) (hi : P.underlying fi = some (.int .i64)) (hone : oneCellFields P #[f0, f1] = true) (hC : P.cellsOf e = 2)
    (hv : Value.okWide P w .any b0 t v) (h : DataW.Trod enc P w 0 (fun _ => true) true t v d p) :
    ∃ (A : Option Addr) (c : Nat) (l : List P2), v = .slice A l.length c ∧ l.length ≤ c ∧ c ≤ maxLen ∧ R2 w A l := by
  obtain ⟨a0, len, cap, rfl⟩ := okWide_slice ht hv
  obtain ⟨fuel, hf⟩ := h
  obtain ⟨A, c, l, hcs, hl, hm, hr⟩ := trod_slice2 ht he h0 h1 hi hone hC hf
  exact ⟨A, c, l, by simpa [Value.cells] using hcs, hl, hm, hr⟩

theorem trod_slice3 {t e fi : TypeId} {f0 f1 f2 : Field} {fuel : Nat} {cs : List Value} {x : DataW H × List MemPlace} (ht : P.underlying t = some (.slice e)) (he : P.underlying e = some (.struct #[f0, f1, f2]))
    (h0 : f0.type = fi) (h1 : f1.type = fi) (h2 : f2.type = fi) (hi : P.underlying fi = some (.int .i64)) (hone : oneCellFields P #[f0, f1, f2] = true) (hC : P.cellsOf e = 3)
    (hf : DataW.trod enc P w 0 (fun _ => true) true fuel t cs = some x) :
    ∃ (A : Option Addr) (c : Nat) (l : List P3), cs = [.slice A l.length c] ∧ l.length ≤ c ∧ c ≤ maxLen ∧ R3 w A l := by
  rcases open_fields ht he hone hC hf with rfl | ⟨a, len, cap, rfl, hl, hm, hc⟩
  · exact ⟨none, 0, [], rfl, Nat.le_refl _, Nat.zero_le _, Rds.nil_⟩
  · have cell : ∀ i, i < cap → ∃ q r s, w.cell? (a.add (i * 3)) = some (.int .i64 q) ∧ w.cell? (a.add (i * 3 + 1)) = some (.int .i64 r) ∧ w.cell? (a.add (i * 3 + 2)) = some (.int .i64 s) := by
      intro i hii
      obtain ⟨n, hn⟩ := hc i hii
      obtain ⟨v0, y0, c0, t0⟩ := hn 0 f0 rfl
      obtain ⟨v1, y1, c1, t1⟩ := hn 1 f1 rfl
      obtain ⟨v2, y2, c2, t2⟩ := hn 2 f2 rfl
      rw [h0] at t0
      rw [h1] at t1
      rw [h2] at t2
      obtain ⟨q, rfl⟩ := int_cell hi t0
      obtain ⟨r, rfl⟩ := int_cell hi t1
      obtain ⟨s, rfl⟩ := int_cell hi t2
      exact ⟨q, r, s, c0, c1, c2⟩
    let l : List P3 := (List.range len).map fun i => (intIn (w.cell? (a.add (i * 3))), intIn (w.cell? (a.add (i * 3 + 1))), intIn (w.cell? (a.add (i * 3 + 2))))
    have hlen : l.length = len := by simp [l]
    refine ⟨some a, cap, l, by rw [hlen], by omega, hm, by rw [enc3_length], fun hn => ?_⟩
    rw [hlen] at hn
    obtain ⟨q0, r0, s0, c0, _⟩ := cell 0 (by omega)
    obtain ⟨b, off, rfl⟩ := addr_plain (by simpa using c0)
    refine ⟨b, off, rfl, by rw [Go.WideShapes.add_plain] at c0; exact cell_lt c0, fun j u hu => ?_⟩
    have hj : j < l.length * 3 := by rw [← enc3_length]; exact (List.getElem?_eq_some_iff.1 hu).1
    have hjk : j / 3 < l.length := by omega
    obtain ⟨q, r, s, cq, cr, cs⟩ := cell (j / 3) (by omega)
    have g := enc3_get l (j / 3) hjk
    have hlk : l[j / 3] = (q, r, s) := by simp [l, cq, cr, cs, intIn]
    rw [hlk] at g
    rw [Go.WideShapes.add_plain] at cq cr cs
    have hcase : j % 3 = 0 ∨ j % 3 = 1 ∨ j % 3 = 2 := by omega
    rcases hcase with hm0 | hm1 | hm2
    · have ej : j / 3 * 3 = j := by omega
      rw [ej] at g cq
      rw [g.1] at hu
      rw [← hu, cq]
    · have ej : j / 3 * 3 + 1 = j := by omega
      rw [ej] at g cr
      rw [g.2.1] at hu
      rw [← hu, cr]
    · have ej : j / 3 * 3 + 2 = j := by omega
      rw [ej] at g cs
      rw [g.2.2] at hu
      rw [← hu, cs]

theorem open_slice3 {t e fi : TypeId} {f0 f1 f2 : Field} {b0 : Nat} {v : Value} {d : DataW H} {p : List MemPlace} (ht : P.underlying t = some (.slice e)) (he : P.underlying e = some (.struct #[f0, f1, f2]))
    (h0 : f0.type = fi) (h1 : f1.type = fi) (h2 : f2.type = fi) (hi : P.underlying fi = some (.int .i64)) (hone : oneCellFields P #[f0, f1, f2] = true) (hC : P.cellsOf e = 3)
    (hv : Value.okWide P w .any b0 t v) (h : DataW.Trod enc P w 0 (fun _ => true) true t v d p) :
    ∃ (A : Option Addr) (c : Nat) (l : List P3), v = .slice A l.length c ∧ l.length ≤ c ∧ c ≤ maxLen ∧ R3 w A l := by
  obtain ⟨a0, len, cap, rfl⟩ := okWide_slice ht hv
  obtain ⟨fuel, hf⟩ := h
  obtain ⟨A, c, l, hcs, hl, hm, hr⟩ := trod_slice3 ht he h0 h1 h2 hi hone hC hf
  exact ⟨A, c, l, by simpa [Value.cells] using hcs, hl, hm, hr⟩

/-- A struct of a struct of two numbers and a slice of pairs. -/
theorem open_sheeted {t ts tl e fi : TypeId} {f0 f1 s0 s1 g0 g1 : Field} {b0 : Nat} {v : Value} {d : DataW H} {p : List MemPlace} (ht : P.underlying t = some (.struct #[f0, f1]))
    (hf0 : f0.type = ts) (hf1 : f1.type = tl) (hs : P.underlying ts = some (.struct #[s0, s1])) (hl : P.underlying tl = some (.slice e)) (he : P.underlying e = some (.struct #[g0, g1]))
    (hi : P.underlying fi = some (.int .i64)) (hs0 : s0.type = fi) (hs1 : s1.type = fi) (hg0 : g0.type = fi) (hg1 : g1.type = fi)
    (hone : oneCellFields P #[g0, g1] = true) (hones : oneCellFields P #[s0, s1] = true) (hC : P.cellsOf e = 2) (hCs : P.cellsOf ts = 2) (hCt : P.cellsOf t = 3) (hCl : P.cellsOf tl = 1)
    (ho0 : f0.offset = 0) (ho1 : f1.offset = 2)
    (hv : Value.okWide P w .any b0 t v) (h : DataW.Trod enc P w 0 (fun _ => true) true t v d p) :
    ∃ (x y : Int) (A : Option Addr) (c : Nat) (l : List P2), v = .agg #[.int .i64 x, .int .i64 y, .slice A l.length c] ∧ l.length ≤ c ∧ c ≤ maxLen ∧ R2 w A l := by
  obtain ⟨cs, rfl, hsz⟩ := okWide_struct ht hv
  obtain ⟨c0, c1, c2, rfl⟩ := array3 (hsz.trans hCt)
  obtain ⟨fuel, hf⟩ := h
  obtain ⟨y0, y1, n, _, _, h0, h1⟩ := Go.ChangeShapes.trod_struct2 ht hf
  rw [hf0, ho0, hCs] at h0
  rw [hf1, ho1, hCl] at h1
  obtain ⟨z0, z1, n', _, _, k0, k1⟩ := Go.ChangeShapes.trod_struct2 hs h0
  obtain ⟨o0, q0⟩ := hone_of hones 0 s0 rfl
  obtain ⟨o1, q1⟩ := hone_of hones 1 s1 rfl
  rw [hs0, o0] at k0
  rw [hs1, o1] at k1
  rw [hs0] at q0
  rw [hs1] at q1
  rw [q0] at k0
  rw [q1] at k1
  simp only [Value.cells] at h1 k0 k1
  obtain ⟨x, rfl⟩ := int_cell hi (v := c0) (by simpa using k0)
  obtain ⟨y, rfl⟩ := int_cell hi (v := c1) (by simpa using k1)
  obtain ⟨A, c, l, hcs, hlc, hm, hr⟩ := trod_slice2 hl he hg0 hg1 hi hone hC h1
  refine ⟨x, y, A, c, l, ?_, hlc, hm, hr⟩
  have : c2 = .slice A l.length c := by simpa using hcs
  rw [this]
end
end Go.Proofs.Ytkgbilbicdiadaa
