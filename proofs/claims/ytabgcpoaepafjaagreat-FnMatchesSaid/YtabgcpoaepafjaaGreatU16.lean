/- Words and walks for the law FnMatches, a part of them. No condition but that the arguments lie in memory. -/
import Derived.Test.YtabgcpoaepafjaaGreatU2
import Derived.Test.YtabgcpoaepafjaaGreatU14
import Derived.Deep.AppendLies
import Derived.Deep.RegionLawGrows
import Derived.Deep.Upon
set_option linter.unusedVariables false
set_option linter.unusedSimpArgs false
namespace Go.Proofs.YtabgcpoaepafjaaGreat
open Go.RowKit
/-- A row of k headers that grows, each header's row of n zeros in a block of its own. -/
def Hdr (w : World) (B : Nat) (v : Value) (k n : Nat) (Th Te : TypeId) : Prop :=
  ∃ G : Nat → Nat, w.ownsRow B Th 1 v k ((List.range k).map fun i => Value.slice (some ⟨G i, 0, none⟩) n n) ∧ (∀ i, i < k → B ≤ G i ∧ v.ownBlock ≠ some (G i) ∧ Blk w (G i) Te (List.replicate n (Value.int .i64 0))) ∧ ∀ i j, i < k → j < k → G i = G j → i = j
theorem Hdr.step {w w2 w4 : World} {B k n g : Nat} {v v' : Value} {Th Te : TypeId} {G : Nat → Nat} (h1 : w.ownsRow B Th 1 v k ((List.range k).map fun i => Value.slice (some ⟨G i, 0, none⟩) n n)) (h2 : ∀ i, i < k → B ≤ G i ∧ v.ownBlock ≠ some (G i) ∧ Blk w (G i) Te (List.replicate n (Value.int .i64 0))) (h3 : ∀ i j, i < k → j < k → G i = G j → i = j) (hE : Ext w w2) (hg : g = w.heap.size) (hB : B ≤ w.heap.size) (hb : Blk w2 g Te (List.replicate n (Value.int .i64 0)))
    (hgr : (w2.alloc (.cells #[Value.slice (some ⟨g, 0, none⟩) n n] Th)).grownBy w4 v.ownBlock) (hv : v'.ownBlock = v.ownBlock ∨ v'.ownBlock = some (w2.alloc (.cells #[Value.slice (some ⟨g, 0, none⟩) n n] Th)).heap.size)
    (how : w4.ownsRow B Th 1 v' (k + 1) ((List.range k).map (fun i => Value.slice (some ⟨G i, 0, none⟩) n n) ++ [Value.slice (some ⟨g, 0, none⟩) n n])) : Hdr w4 B v' (k + 1) n Th Te := by
  have hlt : ∀ i, i < k → G i < w.heap.size := fun i hi => (h2 i hi).2.2.lt
  have hgl := hb.lt
  have hsz := hE.size
  have hne : ∀ x, x < w2.heap.size → v.ownBlock ≠ some x → v'.ownBlock ≠ some x := by
    intro x hx hn e
    rcases hv with e' | e'
    · rw [e'] at e
      exact hn e
    · rw [e'] at e
      injection e with e
      simp at e
      omega
  have hvg : v.ownBlock ≠ some g := by
    intro e
    have := (h1.lt g e).2
    omega
  refine ⟨fun i => if i = k then g else G i, ?_, fun i hi => ?_, fun i j hi hj e => ?_⟩
  · have := how
    have e : (List.range (k + 1)).map (fun i => Value.slice (some ⟨if i = k then g else G i, 0, none⟩) n n) = (List.range k).map (fun i => Value.slice (some ⟨G i, 0, none⟩) n n) ++ [Value.slice (some ⟨g, 0, none⟩) n n] := by
      rw [List.range_succ, List.map_append]
      congr 1
      · apply List.map_congr_left
        intro i hi
        have := List.mem_range.1 hi
        rw [if_neg (by omega)]
      · simp
    rw [e]
    exact this
  · by_cases hik : i = k
    · subst hik
      simp only [if_true]
      exact ⟨by omega, hne g hgl hvg, (hb.ext ((Ext.refl _).alloc _)).grown hgr hvg⟩
    · simp only [hik, if_false]
      obtain ⟨e1, e2, e3⟩ := h2 i (by omega)
      exact ⟨e1, hne _ (Nat.lt_of_lt_of_le e3.lt hsz) e2, ((e3.ext hE).ext ((Ext.refl _).alloc _)).grown hgr e2⟩
  · have a1 := hlt i
    have a2 := hlt j
    have a3 := h3 i j
    by_cases hik : i = k <;> by_cases hjk : j = k <;> simp [hik, hjk] at e <;> omega
theorem Hdr.ext {w w' : World} {B k n : Nat} {v : Value} {Th Te : TypeId} (h : Hdr w B v k n Th Te) (hE : Ext w w') (how : ∀ xs, w.ownsRow B Th 1 v k xs → w'.ownsRow B Th 1 v k xs) : Hdr w' B v k n Th Te := by
  obtain ⟨G, h1, h2, h3⟩ := h
  exact ⟨G, how _ h1, fun i hi => ⟨(h2 i hi).1, (h2 i hi).2.1, (h2 i hi).2.2.ext hE⟩, h3⟩
/-- A row does not lie in the headers' block. -/
theorem Mat.ne {w : World} {B hd M m n i g : Nat} {Th Te : TypeId} {f : Nat → Nat → Int} (h : Mat w B hd M m n Th Te f) (hi : i < m) (hc : w.cell? ⟨hd, i, none⟩ = some (.slice (some ⟨g, 0, none⟩) n n)) : ¬ hd = g := by
  obtain ⟨G, hs, h1, h2, h3, h4, h5, h6⟩ := h
  obtain ⟨e1, e2, e3, e4⟩ := h5 i hi
  rw [h2.cell, e1] at hc
  injection hc with hc
  injection hc with hc
  injection hc with hc
  injection hc with hc
  intro e
  exact e3 (by rw [hc, e])
/-- The value of a cell, by name. -/
def cellV (w : World) (p : Addr) : Value := (w.cell? p).getD undef
theorem cellV_some {w : World} {p : Addr} {v : Value} (h : w.cell? p = some v) : w.cell? p = some (cellV w p) := by
  unfold cellV
  rw [h]
  rfl
end Go.Proofs.YtabgcpoaepafjaaGreat
namespace Go.Proofs.YtabgcpoaepafjaaGreat
open Go.RowKit
theorem src_none {P : Program} {size : Nat} {tx e' : TypeId} (hk : P.underlying tx = some (.slice e')) (xa : Option Addr) (c : Nat) (w : World) : Src P size tx (.slice xa 0 c) 0 [] w := by
  cases xa with
  | none => exact Src.ofNil w hk c
  | some a => exact Src.ofSlice w hk a 0 c [] (by simp) (fun j u hu => by simp at hu) (fun u hu => by simp at hu)
theorem step_append_nothing {P : Program} {ops : Array Oper} {o : Oper} {a : Act} {w : World} {K : Act → World → Prop} {Q : Exit → Act → World → Prop} {E : Prop} (hg : o.guard = none) (s x : Operand) (t : TypeId) (hop : o.op = Op.call { callee := Callee.builtin Builtin.append, args := #[s, x], argTypes := #[t, t] })
    (e : TypeId) (i : TypeInfo) (h1 : P.underlying t = some (.slice e)) (h2 : P.info? e = some i) (base : Option Addr) (n cap : Nat) (hs : a.eval s = .slice base n cap) (hle : n ≤ cap) (xa : Option Addr) (m c : Nat) (hm : m = 0) (hx : a.eval x = .slice xa m c)
    (hK : K (a.put o.dst (.slice base n cap)) w) : if Region.wanted o (yielded ops a.tmps) = true then Oper.wp P o a w K Q else E := by
  subst hm
  have hw : Region.wanted o (yielded ops a.tmps) = true := by simp [Region.wanted, hg]
  rw [if_pos hw]
  have hrun := run_append_nothing (P := P) w t t o.type e i h1 h2 base n cap hle (.slice xa 0 c) (src_none h1 xa c w)
  unfold Oper.wp
  simp [execOp, hop, resolve, invoke, builtin, hs, hx, hrun, Result.andThen]
  exact hK
theorem enc2_app (a b : List P2) : enc2 (a ++ b) = enc2 a ++ enc2 b := by simp [enc2]
theorem enc2_pre {E : List P2} {k j : Nat} {v : Value} (h : (enc2 (E.take k))[j]? = some v) : (enc2 E)[j]? = some v := by
  have e : enc2 E = enc2 (E.take k) ++ enc2 (E.drop k) := by rw [← enc2_app, List.take_append_drop]
  rw [e, List.getElem?_append_left]
  · exact h
  · exact (List.getElem?_eq_some_iff.1 h).1
theorem enc2_suf {E : List P2} {k j : Nat} {v : Value} (hk : k ≤ E.length) (h : (enc2 (E.drop k))[j]? = some v) : (enc2 E)[k * 2 + j]? = some v := by
  have e : enc2 E = enc2 (E.take k) ++ enc2 (E.drop k) := by rw [← enc2_app, List.take_append_drop]
  have hl : (enc2 (E.take k)).length = k * 2 := by rw [enc2_length, List.length_take]; omega
  rw [e, List.getElem?_append_right (by omega), hl, show k * 2 + j - k * 2 = j by omega]
  exact h
/-- What the region reads: the box's leads (block p) and the copy's leads (block q). -/
abbrev S3 (p q : Nat) (v : Value) (W : World) : Prop := W.cell? ⟨p, 1, none⟩ = some v ∧ W.cell? ⟨q, 1, none⟩ = some (cellV W ⟨q, 1, none⟩) ∧ W.frozen? ⟨q, 1, none⟩ = false
theorem S3.grown {W W' : World} {row : Option Nat} {p q : Nat} {v : Value} (h : S3 p q v W) (hg : W.grownBy W' row) (hp : p < W.heap.size) (hq : q < W.heap.size) (np : row ≠ some p) (nq : row ≠ some q) : S3 p q v W' :=
  ⟨(World.cell?_of_block (hg.block p hp (fun e => np e.symm))).trans h.1, cellV_some ((World.cell?_of_block (hg.block q hq (fun e => nq e.symm))).trans h.2.1), (World.frozen?_of_block (hg.block q hq (fun e => nq e.symm))).trans h.2.2⟩
theorem S3.ext {W W' : World} {p q : Nat} {v : Value} (h : S3 p q v W) (hE : Ext W W') (hp : p < W.heap.size) (hq : q < W.heap.size) : S3 p q v W' :=
  h.grown (row := none) ⟨hE.os, hE.tape, hE.output, hE.size, fun k hk _ => hE.block k hk⟩ hp hq (by simp) (by simp)
theorem S3.store {W : World} {p q : Nat} {v u : Value} (h : S3 p q v W) (hne : ¬ p = q) : S3 p q v (W.setCell ⟨q, 1, none⟩ u) :=
  ⟨(World.cell?_of_block (Below.heap_setCell _ _ _ _ (show p ≠ q from hne))).trans h.1, cellV_some (World.cell?_setCell_same _ _ _ h.2.1), by rw [World.frozen?_setCell]; exact h.2.2⟩
set_option maxRecDepth 20000 in
set_option maxHeartbeats 2000000 in
theorem DropLead_any (N E : List P2) (A B : Option Addr) (c c' : Nat) (k : Nat) (w : World) (hw : WR w N E A B c c') (hN : 0 < N.length) (hE1 : 0 < E.length) (hE2 : E.length ≤ 1000) (hE3 : 2 ≤ E.length) (hk : k < E.length) :
    Calls Tryz.prog 126 #[.agg #[.slice A N.length c, .slice B E.length c'], .int .i64 k] w fun e w' => ∃ ok E2 A2 B2 d d', e = .returned (.tuple #[.agg #[.slice A2 N.length d, .slice B2 E2.length d'], .bool ok]) ∧ (E2 = E ∨ E2.length + 1 = E.length) ∧ WN w' w.heap.size N E2 A2 B2 d d' ∧ Ext w w' := by
  obtain ⟨j0, hj, hy0, hy1, hy2⟩ := info_parts leadI_info
  have HW := hide hw
  clear hw
  have hkz : (k : Int) < (E.length : Int) := by omega
  have hin : inR (k : Int) 0 ((E.length : Int) - 1) = true := by simp [inR]; omega
  
  go_enter Tryz.func126, Tryz.ntmps126
  go_wp2_with fail
  obtain ⟨w0, hw⟩ : ∃ w1, w1 = (w.alloc (Obj.cells #[Value.slice A N.length c, Value.slice B E.length c'] 27)).alloc (Obj.cells #[Value.slice none 0 0, Value.slice none 0 0] 27) := ⟨_, rfl⟩; rw [← hw]; have kT : Tr [(w.heap.size, [.slice A N.length c, .slice B E.length c']), (w.heap.size + 1, [.slice none 0 0, .slice none 0 0])] w w0 := (by rw [hw]; exact ⟨by (first | (simp [Bx, CellsAt, go_sem, *]; done) | (simp [Bx, CellsAt, go_sem, *]; omega)), by (repeat (first | exact kE | exact Ext.refl _ | apply Ext.alloc | apply Ext.drewN | apply Ext.drew | apply Ext.set0 | apply Ext.set1 | apply Ext.set2 | apply Ext.set3 | (refine Ext.setk ?_ (by omega) _) | (apply Ext.snoc; assumption)))⟩); have HT := hide kT; clear hw kT; have kT := HT.out; simp only [Tr, Bx, CellsAt, Nat.reduceAdd, Nat.zero_add, and_true] at kT; obtain ⟨⟨⟨kz0, kf0, kc0_0, kc0_1⟩, ⟨kz1, kf1, kc1_0, kc1_1⟩⟩, kE⟩ := kT
  have HC2 := hide (fun (W : World) (hE : Ext w W) => l04Copy_any N E A B c c' W (HW.out.ext hE) hN hE1)
  have HOK := hide (fun (W : World) (hE : Ext w W) => sWindowOk_any N E A B c c' W HW.out.hN HW.out.hE HW.out.hc HW.out.hd (HW.out.ext hE).hr (HW.out.ext hE).hs)
  have hNl := HW.out.hN
  refine (HC2.out _ kE).mono ?_
  rintro e wA ⟨A1, B1, d, d', rfl, ho1, ho2, hb1⟩
  have HO1 := hide ho1
  have HO2 := hide ho2
  have HZ := hide kz1
  have HZ0 := hide kz0
  have HZ1 := hide hb1.size
  have HT' := hide (HT.out.ext hb1)
  clear ho1 ho2 hb1 HT
  have HT := HT'
  clear HT'
  clear kz0 kf0 kc0_0 kc0_1 kz1 kf1 kc1_0 kc1_1 kE
  have kT := HT.out; simp only [Tr, Bx, CellsAt, Nat.reduceAdd, Nat.zero_add, and_true] at kT; obtain ⟨⟨⟨kz0, kf0, kc0_0, kc0_1⟩, ⟨kz1, kf1, kc1_0, kc1_1⟩⟩, kE⟩ := kT
  have HEA := hide kE
  go_upto_region 2 with fail
  obtain ⟨w2, hw⟩ : ∃ w1, w1 = wA.alloc (Obj.cells #[Value.slice A1 N.length d, Value.slice B1 E.length d'] 27) := ⟨_, rfl⟩; rw [← hw]; have Hw2 := hide (show Ext wA w2 from (by (rw [hw]; (try clear kE); repeat (first | exact kE | exact Ext.refl _ | apply Ext.alloc | apply Ext.drewN | apply Ext.drew | apply Ext.set0 | apply Ext.set1 | apply Ext.set2 | apply Ext.set3 | (refine Ext.setk ?_ (by omega) _) | (apply Ext.snoc; assumption))))); have HT := hide (HT.out.more Hw2.out (wA.heap.size) [.slice A1 N.length d, .slice B1 E.length d'] (by (rw [hw]; first | (simp [CellsAt, go_sem, *]; done) | (simp [CellsAt, go_sem, *]; omega)))); have Zw2 := hide (congrArg (fun z : World => z.heap.size) hw); clear hw kz0 kf0 kc0_0 kc0_1 kz1 kf1 kc1_0 kc1_1 kE; have kT := HT.out; simp only [Tr, Bx, CellsAt, Nat.reduceAdd, Nat.zero_add, and_true] at kT; obtain ⟨⟨⟨kz0, kf0, kc0_0, kc0_1⟩, ⟨kz1, kf1, kc1_0, kc1_1⟩, ⟨kz2, kf2, kc2_0, kc2_1⟩⟩, kE⟩ := kT
  have HO1' := hide (own_ext HO1.out Hw2.out)
  have HO2' := hide (own_ext HO2.out Hw2.out)
  have HZA := hide Hw2.out.size
  cases hp : windowB N E with
  | false =>
    rw [hp] at HOK
    go_wp2_with fail
    refine (HOK.out _ kE).mono ?_
    rintro e w6 ⟨rfl, hb6⟩
    have HO6 := hide (own_ext HO1'.out hb6)
    have HP6 := hide (own_ext HO2'.out hb6)
    have HT' := hide (HT.out.ext hb6)
    clear hb6 HT
    have HT := HT'
    clear HT'
    clear kz0 kf0 kc0_0 kc0_1 kz1 kf1 kc1_0 kc1_1 kz2 kf2 kc2_0 kc2_1 kE
    have kT := HT.out; simp only [Tr, Bx, CellsAt, Nat.reduceAdd, Nat.zero_add, and_true] at kT; obtain ⟨⟨⟨kz0, kf0, kc0_0, kc0_1⟩, ⟨kz1, kf1, kc1_0, kc1_1⟩, ⟨kz2, kf2, kc2_0, kc2_1⟩⟩, kE⟩ := kT
    have hz9 := HZ.out
    go_wp2_with fail
    refine bodyPost_ret (v := .tuple #[.agg #[.slice A1 N.length d, .slice B1 E.length d'], .bool false]) (by simp only [results, Tryz.results126]; go_simp) rfl ⟨false, E, A1, B1, d, d', rfl, .inl rfl, ⟨own_mono (own_setk (own_setk HO6.out hz9 _) hz9 _) (by omega), own_mono (own_setk (own_setk HP6.out hz9 _) hz9 _) (by omega)⟩, (kE.setk (by omega) _).setk (by omega) _⟩
  | true =>
    rw [hp] at HOK
    go_wp2_with fail
    refine (HOK.out _ kE).mono ?_
    rintro e w6 ⟨rfl, hb6⟩
    have HO6 := hide (own_ext HO1'.out hb6)
    have HP6 := hide (own_ext HO2'.out hb6)
    have HT' := hide (HT.out.ext hb6)
    clear hb6 HT
    have HT := HT'
    clear HT'
    clear kz0 kf0 kc0_0 kc0_1 kz1 kf1 kc1_0 kc1_1 kz2 kf2 kc2_0 kc2_1 kE
    have kT := HT.out; simp only [Tr, Bx, CellsAt, Nat.reduceAdd, Nat.zero_add, and_true] at kT; obtain ⟨⟨⟨kz0, kf0, kc0_0, kc0_1⟩, ⟨kz1, kf1, kc1_0, kc1_1⟩, ⟨kz2, kf2, kc2_0, kc2_1⟩⟩, kE⟩ := kT
    have hz9 := HZ.out
    have hwl : IntKind.i64.wrap ((E.length : Int) - 1) = (E.length : Int) - 1 := by rw [IntKind.wrap_i64]; omega
    go_wp2_with (first | (go_at_call 65; refine (l01In_any _ _ _ _).mono ?_; rintro e w' ⟨rfl, rfl⟩))
    clear hwl
    obtain ⟨b, off, rfl, hb, hcs⟩ := (HW.out.hs.ext kE).2 hE1
    have HN1 := hide (fun (W : World) (hE : Ext w6 W) => news_rds (w := W) (b := b) (off := off) (xs := enc2 (E.take k)) fun j v h => (hE.facts.1 b (off + j) hb).trans (hcs j v (enc2_pre h)))
    have HN2 := hide (fun (W : World) (hE : Ext w6 W) => news_rds (w := W) (b := b) (off := off + (k + 1) * 2) (xs := enc2 (E.drop (k + 1))) fun j v h => (hE.facts.1 b (off + (k + 1) * 2 + j) hb).trans (by rw [Nat.add_assoc]; exact hcs _ v (enc2_suf (by omega) h)))
    have hcl := HW.out.hd
    have hzA := HZA.out
    have HZ6 := hide kz0
    have HE6 := hide kE
    clear hcs
    have hwk : IntKind.i64.wrap ((k : Int) + 1) = (k : Int) + 1 := by rw [IntKind.wrap_i64]; omega
    have i1 : (0 : Int) ≤ (k : Int) := by omega
    have i2 : (k : Int) ≤ (c' : Int) := by omega
    have i3 : (0 : Int) ≤ (k : Int) + 1 := by omega
    have i4 : (k : Int) + 1 ≤ (E.length : Int) := by omega
    have i5 : ((k : Int) + 1).toNat = k + 1 := by omega
    have i6 : (E.length : Int) ≤ (c' : Int) := by omega
    have i7 : (k : Int) + 1 ≤ (c' : Int) := by omega
    have kv : w6.cell? ⟨wA.heap.size, 1, none⟩ = some (cellV w6 ⟨wA.heap.size, 1, none⟩) := cellV_some kc0_1
    have kf : w6.frozen? ⟨wA.heap.size, 1, none⟩ = false := kf0 1
    have hne : ¬ w.heap.size = wA.heap.size := by have := HZ0.out; have := HZ1.out; omega
    have HS6 := hide (show S3 w.heap.size wA.heap.size (.slice (some ⟨b, off, none⟩) E.length c') w6 from ⟨kc1_1, kv, kf⟩)
    by_cases hk0 : k = 0
    · have HK0 := hide hk0
      have i8 : ¬ c' = k + 1 := by omega
      clear hk0
      go_region_held3 (fun w' => w'.cell? ⟨w.heap.size, 1, none⟩ = some (.slice (some ⟨b, off, none⟩) E.length c') ∧ w'.cell? ⟨wA.heap.size, 1, none⟩ = some (cellV w' ⟨wA.heap.size, 1, none⟩) ∧ w'.frozen? ⟨wA.heap.size, 1, none⟩ = false)
          ((first | exact HS7.out | exact S3.store HS7.out hne | (refine S3.ext (W := w6) HS6.out ?_ (by omega) (by omega); repeat (first | exact kE | exact Ext.refl _ | apply Ext.alloc | apply Ext.drewN | apply Ext.drew | apply Ext.set0 | apply Ext.set1 | apply Ext.set2 | apply Ext.set3 | (refine Ext.setk ?_ (by omega) _) | (apply Ext.snoc; assumption)))))
          ((first | (refine step_append_nothing (by rfl) _ _ _ (by rfl) 110 j0 Tryz.underlying25 hj (some ⟨w6.heap.size, 0, none⟩) 0 0 (by rfl) (Nat.le_refl _) _ k _ HK0.out (by rfl) ?_) | (refine step_append_grows (by rfl) _ _ _ (by rfl) 110 j0 (.agg #[.int .i64 0, .int .i64 0]) 2 16 Tryz.underlying25 hj hy0 hy1 hy2 rfl (by omega) (some ⟨w6.heap.size, 0, none⟩) 0 0 [] (by rfl) (fun e => by cases e) rfl (fun _ _ j u hu => by simp at hu) ⟨b, off + (k + 1) * 2, none⟩ (E.length - (k + 1)) (c' - (k + 1)) (enc2 (E.drop (k + 1))) (by rfl) (by rw [enc2_length, List.length_drop]) (HN2.out _ (by repeat (first | exact kE | exact Ext.refl _ | apply Ext.alloc | apply Ext.drewN | apply Ext.drew | apply Ext.set0 | apply Ext.set1 | apply Ext.set2 | apply Ext.set3 | (refine Ext.setk ?_ (by omega) _) | (apply Ext.snoc; assumption)))) (enc2_one _) (by have := HK0.out; omega) (by unfold maxLen; omega) (by omega) ?_; intro v7 w7 hown7 hgrow7; rw [Nat.zero_add] at hown7; have HS7 := hide (S3.grown (S3.ext (W := w6) HS6.out (by repeat (first | exact kE | exact Ext.refl _ | apply Ext.alloc | apply Ext.drewN | apply Ext.drew | apply Ext.set0 | apply Ext.set1 | apply Ext.set2 | apply Ext.set3 | (refine Ext.setk ?_ (by omega) _) | (apply Ext.snoc; assumption))) (by omega) (by omega)) hgrow7 (by simp; omega) (by simp; omega) (by simp) (by simp)); have HX7 := hide (show Ext w6 w7 from Ext.snoc (grown_ext hgrow7) (by repeat (first | exact kE | exact Ext.refl _ | apply Ext.alloc | apply Ext.drewN | apply Ext.drew | apply Ext.set0 | apply Ext.set1 | apply Ext.set2 | apply Ext.set3 | (refine Ext.setk ?_ (by omega) _) | (apply Ext.snoc; assumption)))); have hs7 := HX7.out.size; have HL7 := hide (show ∀ q, v7.ownBlock = some q → w6.heap.size ≤ q from fun q e => by (have h := (hown7.lt q e).1; simp at h; omega)); obtain ⟨A7, d7, rfl, hd7, _⟩ := own_slice hown7)))
      have HX6 := hide kE
      have hzz := HZ1.out
      have HN7 := hide (own_ext HO6.out HX7.out)
      have HP7 := hide hown7
      have HG7 := hide (show ∀ q, (Value.slice A7 (E.length - (k + 1)) d7).ownBlock = some q → q ≠ wA.heap.size from fun q e => by have h := HL7.out _ e; omega)
      have HT7 := hide (HT.out.ext HX7.out)
      clear HT hown7 hgrow7 HS7 HS6 HN1 HN2 hwk i1 i2 i3 i4 i5 i6 i7 kv kf
      clear kz0 kf0 kc0_0 kc0_1 kz1 kf1 kc1_0 kc1_1 kz2 kf2 kc2_0 kc2_1 kE
      have HT := HT7
      clear HT7
      have kT := HT.out; simp only [Tr, Bx, CellsAt, Nat.reduceAdd, Nat.zero_add, and_true] at kT; obtain ⟨⟨⟨kz0, kf0, kc0_0, kc0_1⟩, ⟨kz1, kf1, kc1_0, kc1_1⟩, ⟨kz2, kf2, kc2_0, kc2_1⟩⟩, kE⟩ := kT
      have kEA := HEA.out
      have HN9 := hide (own_setn (k := wA.heap.size) HN7.out (o := 1) (fun q e => by have := (HO1.out.lt q e).2; omega) (.slice A7 (E.length - (k + 1)) d7))
      have HP9 := hide (own_setn (k := wA.heap.size) HP7.out (o := 1) HG7.out (.slice A7 (E.length - (k + 1)) d7))
      clear HT
      have hne2 : ¬ w.heap.size + 1 = wA.heap.size := by omega
      have hne3 : ¬ wA.heap.size = w.heap.size := by omega
      have hne4 : ¬ wA.heap.size = w.heap.size + 1 := by omega
      obtain ⟨w9, hw⟩ : ∃ w1, w1 = w7.setCell ⟨wA.heap.size, 1, none⟩ (.slice A7 (E.length - (k + 1)) d7) := ⟨_, rfl⟩
      first | rw [← hw] | (have hw2 := hw; simp only [Nat.zero_add] at hw2; rw [← hw2])
      have HT := hide (show Tr [(wA.heap.size, [.slice A1 N.length d, .slice A7 (E.length - (k + 1)) d7]), (w.heap.size, [.slice A N.length c, .slice (some ⟨b, off, none⟩) E.length c']), (w.heap.size + 1, [.slice none 0 0, .slice none 0 0])] w w9 from by rw [hw]; exact ⟨by simp [Bx, CellsAt, go_sem, kz0, kf0, kc0_0, kc0_1, kz1, kf1, kc1_0, kc1_1, kz2, kf2, kc2_0, kc2_1, hne, hne2, hne3, hne4], by repeat (first | exact kE | exact Ext.refl _ | apply Ext.alloc | apply Ext.drewN | apply Ext.drew | apply Ext.set0 | apply Ext.set1 | apply Ext.set2 | apply Ext.set3 | (refine Ext.setk ?_ (by omega) _) | (apply Ext.snoc; assumption))⟩)
      clear kz0 kf0 kc0_0 kc0_1 kz1 kf1 kc1_0 kc1_1 kz2 kf2 kc2_0 kc2_1 kE
      have kT := HT.out; simp only [Tr, Bx, CellsAt, Nat.reduceAdd, Nat.zero_add, and_true] at kT; obtain ⟨⟨⟨kz0, kf0, kc0_0, kc0_1⟩, ⟨kz1, kf1, kc1_0, kc1_1⟩, ⟨kz2, kf2, kc2_0, kc2_1⟩⟩, kE⟩ := kT
      rw [← hw] at HN9 HP9
      clear hw
      have hlen : (E.drop (k + 1)).length = E.length - (k + 1) := by rw [List.length_drop]
      have henc : enc2 (E.drop (k + 1)) = [] ++ enc2 (E.drop (k + 1)) := rfl
      have HLN := hide hlen
      have HL1 := hide (show E.length - (k + 1) + 1 = E.length by have := HK0.out; omega)
      have HEN := hide henc
      clear hlen henc
      go_wp2_with fail
      refine bodyPost_ret (v := .tuple #[.agg #[.slice A1 N.length d, .slice A7 (E.length - (k + 1)) d7], .bool true]) (by simp only [results, Tryz.results126]; go_simp) rfl ⟨true, E.drop (k + 1), A1, A7, d, d7, by rw [HLN.out], .inr (by rw [HLN.out]; exact HL1.out), ⟨own_mono (own_setk (own_setk HN9.out hz9 _) hz9 _) (by omega), ?_⟩, (kE.setk (by omega) _).setk (by omega) _⟩
      rw [HLN.out, HEN.out]
      exact own_mono (own_setk (own_setk (own_mono (base' := w0.heap.size) HP9.out (by have := HZ6.out; simp; omega)) hz9 _) hz9 _) (by omega)
    · by_cases hkl : k + 1 = E.length
      · have i8 : E.length - (k + 1) = 0 := by omega
        go_region_held3 (fun w' => w'.cell? ⟨w.heap.size, 1, none⟩ = some (.slice (some ⟨b, off, none⟩) E.length c') ∧ w'.cell? ⟨wA.heap.size, 1, none⟩ = some (cellV w' ⟨wA.heap.size, 1, none⟩) ∧ w'.frozen? ⟨wA.heap.size, 1, none⟩ = false)
          ((first | exact HS7.out | exact S3.store HS7.out hne | (refine S3.ext (W := w6) HS6.out ?_ (by omega) (by omega); repeat (first | exact kE | exact Ext.refl _ | apply Ext.alloc | apply Ext.drewN | apply Ext.drew | apply Ext.set0 | apply Ext.set1 | apply Ext.set2 | apply Ext.set3 | (refine Ext.setk ?_ (by omega) _) | (apply Ext.snoc; assumption)))))
          ((first | (refine step_append_nothing (by rfl) _ _ _ (by rfl) 110 j0 Tryz.underlying25 hj A7 k d7 (by rfl) hd7 _ 0 _ rfl (by rfl) ?_) | (refine step_append_grows (by rfl) _ _ _ (by rfl) 110 j0 (.agg #[.int .i64 0, .int .i64 0]) 2 16 Tryz.underlying25 hj hy0 hy1 hy2 rfl (by omega) (some ⟨w6.heap.size, 0, none⟩) 0 0 [] (by rfl) (fun e => by cases e) rfl (fun _ _ j u hu => by simp at hu) ⟨b, off, none⟩ k c' (enc2 (E.take k)) (by rfl) (by rw [enc2_length, List.length_take]; omega) (HN1.out _ (by repeat (first | exact kE | exact Ext.refl _ | apply Ext.alloc | apply Ext.drewN | apply Ext.drew | apply Ext.set0 | apply Ext.set1 | apply Ext.set2 | apply Ext.set3 | (refine Ext.setk ?_ (by omega) _) | (apply Ext.snoc; assumption)))) (enc2_one _) (by omega) (by unfold maxLen; omega) (by omega) ?_; intro v7 w7 hown7 hgrow7; rw [Nat.zero_add] at hown7; have HS7 := hide (S3.grown (S3.ext (W := w6) HS6.out (by repeat (first | exact kE | exact Ext.refl _ | apply Ext.alloc | apply Ext.drewN | apply Ext.drew | apply Ext.set0 | apply Ext.set1 | apply Ext.set2 | apply Ext.set3 | (refine Ext.setk ?_ (by omega) _) | (apply Ext.snoc; assumption))) (by omega) (by omega)) hgrow7 (by simp; omega) (by simp; omega) (by simp) (by simp)); have HX7 := hide (show Ext w6 w7 from Ext.snoc (grown_ext hgrow7) (by repeat (first | exact kE | exact Ext.refl _ | apply Ext.alloc | apply Ext.drewN | apply Ext.drew | apply Ext.set0 | apply Ext.set1 | apply Ext.set2 | apply Ext.set3 | (refine Ext.setk ?_ (by omega) _) | (apply Ext.snoc; assumption)))); have hs7 := HX7.out.size; have HL7 := hide (show ∀ q, v7.ownBlock = some q → w6.heap.size ≤ q from fun q e => by (have h := (hown7.lt q e).1; simp at h; omega)); obtain ⟨A7, d7, rfl, hd7, _⟩ := own_slice hown7)))
        have HX6 := hide kE
        have hzz := HZ1.out
        have HN7 := hide (own_ext HO6.out HX7.out)
        have HP7 := hide hown7
        have HG7 := hide (show ∀ q, (Value.slice A7 (k) d7).ownBlock = some q → q ≠ wA.heap.size from fun q e => by have h := HL7.out _ e; omega)
        have HT7 := hide (HT.out.ext HX7.out)
        clear HT hown7 hgrow7 HS7 HS6 HN1 HN2 hwk i1 i2 i3 i4 i5 i6 i7 kv kf
        clear kz0 kf0 kc0_0 kc0_1 kz1 kf1 kc1_0 kc1_1 kz2 kf2 kc2_0 kc2_1 kE
        have HT := HT7
        clear HT7
        have kT := HT.out; simp only [Tr, Bx, CellsAt, Nat.reduceAdd, Nat.zero_add, and_true] at kT; obtain ⟨⟨⟨kz0, kf0, kc0_0, kc0_1⟩, ⟨kz1, kf1, kc1_0, kc1_1⟩, ⟨kz2, kf2, kc2_0, kc2_1⟩⟩, kE⟩ := kT
        have kEA := HEA.out
        have HN9 := hide (own_setn (k := wA.heap.size) HN7.out (o := 1) (fun q e => by have := (HO1.out.lt q e).2; omega) (.slice A7 (k) d7))
        have HP9 := hide (own_setn (k := wA.heap.size) HP7.out (o := 1) HG7.out (.slice A7 (k) d7))
        clear HT
        have hne2 : ¬ w.heap.size + 1 = wA.heap.size := by omega
        have hne3 : ¬ wA.heap.size = w.heap.size := by omega
        have hne4 : ¬ wA.heap.size = w.heap.size + 1 := by omega
        obtain ⟨w9, hw⟩ : ∃ w1, w1 = w7.setCell ⟨wA.heap.size, 1, none⟩ (.slice A7 (k) d7) := ⟨_, rfl⟩
        first | rw [← hw] | (have hw2 := hw; simp only [Nat.zero_add] at hw2; rw [← hw2])
        have HT := hide (show Tr [(wA.heap.size, [.slice A1 N.length d, .slice A7 (k) d7]), (w.heap.size, [.slice A N.length c, .slice (some ⟨b, off, none⟩) E.length c']), (w.heap.size + 1, [.slice none 0 0, .slice none 0 0])] w w9 from by rw [hw]; exact ⟨by simp [Bx, CellsAt, go_sem, kz0, kf0, kc0_0, kc0_1, kz1, kf1, kc1_0, kc1_1, kz2, kf2, kc2_0, kc2_1, hne, hne2, hne3, hne4], by repeat (first | exact kE | exact Ext.refl _ | apply Ext.alloc | apply Ext.drewN | apply Ext.drew | apply Ext.set0 | apply Ext.set1 | apply Ext.set2 | apply Ext.set3 | (refine Ext.setk ?_ (by omega) _) | (apply Ext.snoc; assumption))⟩)
        clear kz0 kf0 kc0_0 kc0_1 kz1 kf1 kc1_0 kc1_1 kz2 kf2 kc2_0 kc2_1 kE
        have kT := HT.out; simp only [Tr, Bx, CellsAt, Nat.reduceAdd, Nat.zero_add, and_true] at kT; obtain ⟨⟨⟨kz0, kf0, kc0_0, kc0_1⟩, ⟨kz1, kf1, kc1_0, kc1_1⟩, ⟨kz2, kf2, kc2_0, kc2_1⟩⟩, kE⟩ := kT
        rw [← hw] at HN9 HP9
        clear hw
        have hlen : (E.take k).length = k := by rw [List.length_take]; omega
        have henc : enc2 (E.take k) = [] ++ enc2 (E.take k) := rfl
        have HLN := hide hlen
        have HL1 := hide (show k + 1 = E.length by omega)
        have HEN := hide henc
        clear hlen henc
        go_wp2_with fail
        all_goals
          refine bodyPost_ret (v := .tuple #[.agg #[.slice A1 N.length d, .slice A7 (k) d7], .bool true]) (by simp only [results, Tryz.results126]; go_simp) rfl (.inr ⟨E.take k, A1, A7, d, d7, by rw [HLN.out], .inr (by rw [HLN.out]; exact HL1.out), ⟨own_mono (own_setk (own_setk HN9.out hz9 _) hz9 _) (by omega), ?_⟩, (kE.setk (by omega) _).setk (by omega) _⟩)
          rw [HLN.out, HEN.out]
          exact own_mono (own_setk (own_setk (own_mono (base' := w0.heap.size) HP9.out (by have := HZ6.out; simp; omega)) hz9 _) hz9 _) (by omega)
      · have i8 : ¬ c' = k + 1 := by omega
        go_region_held3 (fun w' => w'.cell? ⟨w.heap.size, 1, none⟩ = some (.slice (some ⟨b, off, none⟩) E.length c') ∧ w'.cell? ⟨wA.heap.size, 1, none⟩ = some (cellV w' ⟨wA.heap.size, 1, none⟩) ∧ w'.frozen? ⟨wA.heap.size, 1, none⟩ = false)
          ((first | exact HS7.out | exact HS8.out | exact S3.store HS8.out hne | (refine S3.ext (W := w6) HS6.out ?_ (by omega) (by omega); repeat (first | exact kE | exact Ext.refl _ | apply Ext.alloc | apply Ext.drewN | apply Ext.drew | apply Ext.set0 | apply Ext.set1 | apply Ext.set2 | apply Ext.set3 | (refine Ext.setk ?_ (by omega) _) | (apply Ext.snoc; assumption)))))
          ((first | (refine step_append_grows (by rfl) _ _ _ (by rfl) 110 j0 (.agg #[.int .i64 0, .int .i64 0]) 2 16 Tryz.underlying25 hj hy0 hy1 hy2 rfl (by omega) (some ⟨w6.heap.size, 0, none⟩) 0 0 [] (by rfl) (fun e => by cases e) rfl (fun _ _ j u hu => by simp at hu) ⟨b, off, none⟩ k c' (enc2 (E.take k)) (by rfl) (by rw [enc2_length, List.length_take]; omega) (HN1.out _ (by repeat (first | exact kE | exact Ext.refl _ | apply Ext.alloc | apply Ext.drewN | apply Ext.drew | apply Ext.set0 | apply Ext.set1 | apply Ext.set2 | apply Ext.set3 | (refine Ext.setk ?_ (by omega) _) | (apply Ext.snoc; assumption)))) (enc2_one _) (by omega) (by unfold maxLen; omega) (by omega) ?_; intro v7 w7 hown7 hgrow7; have HS7 := hide (S3.grown (S3.ext (W := w6) HS6.out (by repeat (first | exact kE | exact Ext.refl _ | apply Ext.alloc | apply Ext.drewN | apply Ext.drew | apply Ext.set0 | apply Ext.set1 | apply Ext.set2 | apply Ext.set3 | (refine Ext.setk ?_ (by omega) _) | (apply Ext.snoc; assumption))) (by omega) (by omega)) hgrow7 (by simp; omega) (by simp; omega) (by simp) (by simp)); have HX7 := hide (show Ext w6 w7 from Ext.snoc (grown_ext hgrow7) (by repeat (first | exact kE | exact Ext.refl _ | apply Ext.alloc | apply Ext.drewN | apply Ext.drew | apply Ext.set0 | apply Ext.set1 | apply Ext.set2 | apply Ext.set3 | (refine Ext.setk ?_ (by omega) _) | (apply Ext.snoc; assumption)))); have hs7 := HX7.out.size; have HL7 := hide (show ∀ q, v7.ownBlock = some q → w6.heap.size ≤ q from fun q e => by (have h := (hown7.lt q e).1; simp at h; omega))) | (refine step_append_lies _ (by rfl) _ _ _ (by rfl) _ 110 j0 (.agg #[.int .i64 0, .int .i64 0]) 2 16 Tryz.underlying25 hj hy0 hy1 hy2 rfl (by omega) v7 (0 + k) ([] ++ enc2 (E.take k)) (by rfl) hown7 ⟨b, off + (k + 1) * 2, none⟩ (E.length - (k + 1)) (c' - (k + 1)) (enc2 (E.drop (k + 1))) (by rfl) (by rw [enc2_length, List.length_drop]) (HN2.out _ HX7.out) (enc2_one _) (by omega) (by unfold maxLen; omega) (by omega) hgrow7.size (w7.heap.size) rfl ?_; intro gg cap w8 hown8 hgrow8 hat8 hlt8; have HS8 := hide (S3.grown HS7.out hgrow8 (by omega) (by omega) (fun e => by (have h := HL7.out _ e; omega)) (fun e => by (have h := HL7.out _ e; omega))))))
        have HX6 := hide kE
        have HO7 := own_ext HO6.out HX7.out
        have HN8 := hide (World.ownsRow.kept HO7 hgrow8 (by
          rcases hv : (Value.slice A1 N.length d).ownBlock with _ | q
          · exact .inl rfl
          · exact .inr fun e => own_apart2 HO7 hown7 (by decide) q hv e.symm))
        have HP8 := hide hown8
        have HGG := hide (show wA.heap.size < gg from by
          rcases hat8 with e | e
          · have h := HL7.out _ e
            omega
          · omega)
        have HT7 := hide ((HT.out.ext HX7.out).grownA hgrow8 (fun q hq => by have h := HL7.out _ hq; omega) (by
          simp only [Ap, and_true]
          exact ⟨fun e => by (have h := HL7.out _ e; omega), fun e => by (have h := HL7.out _ e; omega), fun e => by (have h := HL7.out _ e; omega)⟩))
        clear HO7 HT hown7 hgrow7 hown8 hgrow8 hat8 hlt8 HS7 HS8 HS6 HN1 HN2 hwk i1 i2 i3 i4 i5 i6 i7 i8 kv kf
        clear kz0 kf0 kc0_0 kc0_1 kz1 kf1 kc1_0 kc1_1 kz2 kf2 kc2_0 kc2_1 kE
        have HT := HT7
        clear HT7
        have kT := HT.out; simp only [Tr, Bx, CellsAt, Nat.reduceAdd, Nat.zero_add, and_true] at kT; obtain ⟨⟨⟨kz0, kf0, kc0_0, kc0_1⟩, ⟨kz1, kf1, kc1_0, kc1_1⟩, ⟨kz2, kf2, kc2_0, kc2_1⟩⟩, kE⟩ := kT
        have kEA := HEA.out
        have HN9 := hide (own_setn (k := wA.heap.size) HN8.out (o := 1) (fun q e => by have := (HO1.out.lt q e).2; omega) (.slice (some ⟨gg, 0, none⟩) (k + (E.length - (k + 1))) cap))
        have HP9 := hide (own_setn (k := wA.heap.size) HP8.out (o := 1) (fun q e => by have h := HGG.out; have e2 : some gg = some q := e; injection e2 with e2; omega) (.slice (some ⟨gg, 0, none⟩) (k + (E.length - (k + 1))) cap))
        clear HT
        have hzz := HZ1.out
        have hne2 : ¬ w.heap.size + 1 = wA.heap.size := by omega
        have hne3 : ¬ wA.heap.size = w.heap.size := by omega
        have hne4 : ¬ wA.heap.size = w.heap.size + 1 := by omega
        
        obtain ⟨w9, hw⟩ : ∃ w1, w1 = w8.setCell ⟨wA.heap.size, 1, none⟩ (.slice (some ⟨gg, 0, none⟩) (k + (E.length - (k + 1))) cap) := ⟨_, rfl⟩
        rw [← hw]
        have HT := hide (show Tr [(wA.heap.size, [.slice A1 N.length d, .slice (some ⟨gg, 0, none⟩) (k + (E.length - (k + 1))) cap]), (w.heap.size, [.slice A N.length c, .slice (some ⟨b, off, none⟩) E.length c']), (w.heap.size + 1, [.slice none 0 0, .slice none 0 0])] w w9 from by rw [hw]; exact ⟨by simp [Bx, CellsAt, go_sem, kz0, kf0, kc0_0, kc0_1, kz1, kf1, kc1_0, kc1_1, kz2, kf2, kc2_0, kc2_1, hne, hne2, hne3, hne4], by repeat (first | exact kE | exact Ext.refl _ | apply Ext.alloc | apply Ext.drewN | apply Ext.drew | apply Ext.set0 | apply Ext.set1 | apply Ext.set2 | apply Ext.set3 | (refine Ext.setk ?_ (by omega) _) | (apply Ext.snoc; assumption))⟩)
        clear kz0 kf0 kc0_0 kc0_1 kz1 kf1 kc1_0 kc1_1 kz2 kf2 kc2_0 kc2_1 kE
        have kT := HT.out; simp only [Tr, Bx, CellsAt, Nat.reduceAdd, Nat.zero_add, and_true] at kT; obtain ⟨⟨⟨kz0, kf0, kc0_0, kc0_1⟩, ⟨kz1, kf1, kc1_0, kc1_1⟩, ⟨kz2, kf2, kc2_0, kc2_1⟩⟩, kE⟩ := kT
        rw [← hw] at HN9 HP9
        clear hw
        have hlen : (E.take k ++ E.drop (k + 1)).length = k + (E.length - (k + 1)) := by rw [List.length_append, List.length_take, List.length_drop]; omega
        have henc : enc2 (E.take k ++ E.drop (k + 1)) = [] ++ enc2 (E.take k) ++ enc2 (E.drop (k + 1)) := by rw [enc2_app]; rfl
        have HLN := hide hlen
        have HL1 := hide (show k + (E.length - (k + 1)) + 1 = E.length by omega)
        have HEN := hide henc
        clear hlen henc
        go_wp2_with fail
        refine bodyPost_ret (v := .tuple #[.agg #[.slice A1 N.length d, .slice (some ⟨gg, 0, none⟩) (k + (E.length - (k + 1))) cap], .bool true]) (by simp only [results, Tryz.results126]; go_simp) rfl ⟨true, E.take k ++ E.drop (k + 1), A1, some ⟨gg, 0, none⟩, d, cap, by rw [HLN.out], .inr (by rw [HLN.out]; exact HL1.out), ⟨own_mono (own_setk (own_setk HN9.out hz9 _) hz9 _) (by omega), ?_⟩, (kE.setk (by omega) _).setk (by omega) _⟩
        rw [HLN.out, HEN.out]
        have h := HP9.out
        rw [Nat.zero_add] at h
        exact own_mono (own_setk (own_setk (own_mono (base' := w0.heap.size) h (by have := HZ6.out; simp; omega)) hz9 _) hz9 _) (by omega)
end Go.Proofs.YtabgcpoaepafjaaGreat
