/- Words and walks for the law FnMatches, a part of them. No condition but that the arguments lie in memory. -/
import Derived.Test.YtabgcpoaepafjaaGreatU17
import Derived.Test.YtabgcpoaepafjaaGreatU19
set_option linter.unusedVariables false
set_option linter.unusedSimpArgs false
namespace Go.Proofs.YtabgcpoaepafjaaGreat
open Go.RowKit
/-- A window that can be read, in blocks from base on. -/
structure WB (w : World) (base : Nat) (N E : List P2) (A B : Option Addr) (c c' : Nat) : Prop where
  wr : WR w N E A B c c'
  an : ∀ b off, A = some ⟨b, off, none⟩ → base ≤ b
  al : ∀ b off, B = some ⟨b, off, none⟩ → base ≤ b
section
variable {g base : Nat} {l : List Int} {w w' : World} {N E : List P2} {A B : Option Addr} {c c' : Nat}
theorem WB.grown (h : WB w base N E A B c c') {k : Nat} (hg : w.grownBy w' (some k)) (hk : k < base) : WB w' base N E A B c c' :=
  ⟨⟨h.wr.hN, h.wr.hE, h.wr.hc, h.wr.hd, Rds.grown h.wr.hr hg (fun b off e q => by have := h.an b off e; injection q; omega), Rds.grown h.wr.hs hg (fun b off e q => by have := h.al b off e; injection q; omega)⟩, h.an, h.al⟩
theorem WB.ext (h : WB w base N E A B c c') (hE : Ext w w') : WB w' base N E A B c c' := ⟨h.wr.ext hE, h.an, h.al⟩
theorem WB.gx (h : WB w base N E A B c c') (hg : Gx g l w w') (hb : g < base) : WB w' base N E A B c c' := h.grown hg.gr hb
theorem WB.low (h : WB w base N E A B c c') {k : Nat} (hk : k < base) (o : Nat) (v : Value) : WB (w.setCell ⟨k, o, none⟩ v) base N E A B c c' := h.grown (grown_set (World.grownBy.refl w (some k)) o v) hk
theorem WB.mono {base' : Nat} (h : WB w base' N E A B c c') (hb : base ≤ base') : WB w base N E A B c c' := ⟨h.wr, fun b off e => Nat.le_trans hb (h.an b off e), fun b off e => Nat.le_trans hb (h.al b off e)⟩
theorem own_from {w : World} {n c sz : Nat} {T : TypeId} {xs : List Value} (h : w.ownsRow base T sz (.slice A n c) n xs) : ∀ b off, A = some ⟨b, off, none⟩ → base ≤ b := fun b off e => by
  obtain ⟨A', c', e1, _, _, h3⟩ := own_slice h
  injection e1 with e1
  subst e1
  obtain ⟨g, e2, h4, _⟩ := h3 _ e
  injection e2
  omega
theorem WN.wb (h : WN w base N E A B c c') (hN : N.length ≤ 1048576) (hE : E.length ≤ 1048576) : WB w base N E A B c c' := ⟨h.wr hN hE, own_from h.nodes, own_from h.leads⟩
theorem WD.wb {b : Nat} (h : WD w base b N E A B c c') (hN : N.length ≤ 1048576) (hE : E.length ≤ 1048576) : WB w base N E A B c c' := h.wn.wb hN hE
end
theorem enc2_set {N : List P2} {k : Nat} (x y : Int) : ((enc2 N).set (k * 2) (.int .i64 x)).set (k * 2 + 1) (.int .i64 y) = enc2 (N.set k (x, y)) := by
  induction N generalizing k with
  | nil => simp [enc2]
  | cons p N ih =>
    cases k with
    | zero => simp [enc2_cons]
    | succ k =>
      have e : (k + 1) * 2 = k * 2 + 1 + 1 := by omega
      have e2 : (k + 1) * 2 + 1 = (k * 2 + 1) + 1 + 1 := by omega
      rw [enc2_cons, List.set_cons_succ, enc2_cons, e2, e]
      simp only [List.set_cons_succ]
      rw [ih]
theorem R2.tail {w : World} {b off : Nat} {N : List P2} (h : R2 w (some ⟨b, off, none⟩) N) (hN : 0 < N.length) : R2 w (some ⟨b, off + 2, none⟩) (N.drop 1) := by
  refine ⟨by rw [enc2_length], fun hp => ?_⟩
  obtain ⟨b', o', e, hb, hc⟩ := h.2 hN
  injection e with e
  injection e with e1 e2
  subst e1 e2
  refine ⟨b, off + 2, rfl, hb, fun j u hj => ?_⟩
  have := hc (2 + j) u (by
    cases N with
    | nil => simp at hN
    | cons p N =>
      rw [enc2_cons]
      have e : 2 + j = j + 1 + 1 := by omega
      rw [e]
      simpa using hj)
  rw [Nat.add_assoc]
  exact this
theorem WB.tail {w : World} {base r c c' : Nat} {N E : List P2} {B : Option Addr} (h : WB w base N E (some ⟨r, 0, none⟩) B c c') (hN : 0 < N.length) : WB w base (N.drop 1) E (some ⟨r, 2, none⟩) B (c - 1) c' := by
  have hc := h.wr.hc
  have hl := h.wr.hN
  refine ⟨⟨by simp; omega, h.wr.hE, by simp; omega, h.wr.hd, ?_, h.wr.hs⟩, fun b off e => ?_, h.al⟩
  · have := R2.tail h.wr.hr hN
    simpa using this
  · injection e with e
    injection e with e1
    exact e1 ▸ h.an r 0 rfl
/-- The length of the list whose header lies at the head of block b. -/
def lenC (w : World) (b : Nat) : Nat := match w.cell? ⟨b, 0, none⟩ with
  | some (.slice _ m _) => m
  | _ => 0
theorem lenC_eq {w : World} {b m c : Nat} {A : Option Addr} (h : w.cell? ⟨b, 0, none⟩ = some (.slice A m c)) : lenC w b = m := by unfold lenC; rw [h]
theorem Gx.app {g r : Nat} {l : List Int} {w w1 w2 : World} {o : Obj} (h : Gx g l w w1) (hg : (w1.alloc o).grownBy w2 (some r)) (hr : w.heap.size ≤ r) (hgr : g < r) : Gx g l w w2 where
  gr := by
    have h1 : w.grownBy (w1.alloc o) (some g) := h.gr.trans (World.grownBy_alloc w1 o _)
    exact ⟨hg.os.trans h1.os, hg.tape.trans h1.tape, hg.output.trans h1.output, Nat.le_trans h1.size hg.size, fun k hk hne => (hg.block k (Nat.lt_of_lt_of_le hk h1.size) (fun e => by injection e with e; omega)).trans (h1.block k hk hne)⟩
  cur := (h.cur.ext ((Ext.refl w1).alloc o)).grown hg hgr
/-- Worlds of a region with a cursor g and an append to the row of leads N in block r (capacity d). -/
structure KL (g r base d : Nat) (l : List Int) (N : List P2) (w w' : World) : Prop where
  os : w'.os = w.os
  tape : w'.tape = w.tape
  output : w'.output = w.output
  size : w.heap.size ≤ w'.heap.size
  block : ∀ k, k < w.heap.size → k ≠ g → k ≠ r → w'.heap[k]? = w.heap[k]?
  cur : Cur w' g l
  row : w'.heap[r]? = w.heap[r]? ∨ ∃ x y, w'.ownsRow base 110 2 (.slice (some ⟨r, 0, none⟩) (N.length + 1) d) (N.length + 1) (enc2 (N ++ [(x, y)]))
section
variable {g r base d : Nat} {l : List Int} {N : List P2} {a b c w w' : World}
theorem KL.trans (h : KL g r base d l N a b) (k : KL g r base d l N b c) : KL g r base d l N a c :=
  ⟨k.os.trans h.os, k.tape.trans h.tape, k.output.trans h.output, Nat.le_trans h.size k.size, fun i hi h1 h2 => (k.block i (Nat.lt_of_lt_of_le hi h.size) h1 h2).trans (h.block i hi h1 h2), k.cur, by
    rcases k.row with q | q
    · rcases h.row with p | ⟨x, y, p⟩
      · exact .inl (q.trans p)
      · exact .inr ⟨x, y, own_same p fun i e => by have e : some r = some i := e; injection e with e; subst e; exact q⟩
    · exact .inr q⟩
theorem KL.of_gx (h : Gx g l w w') (hr : r < w.heap.size) (hne : r ≠ g) : KL g r base d l N w w' :=
  ⟨h.gr.os, h.gr.tape, h.gr.output, h.gr.size, fun k hk h1 _ => h.gr.block k hk (fun e => h1 (by injection e)), h.cur, .inl (h.gr.block r hr (fun e => hne (by injection e)))⟩
theorem KL.old (h : KL g r base d l N w w') (ho : w.ownsRow base 110 2 (.slice (some ⟨r, 0, none⟩) N.length d) N.length (enc2 N)) : w'.ownsRow base 110 2 (.slice (some ⟨r, 0, none⟩) N.length d) N.length (enc2 N) := by
  rcases h.row with q | ⟨x, y, q⟩
  · exact own_same ho fun i e => by have e : some r = some i := e; injection e with e; subst e; exact q
  · rw [enc2_append] at q
    exact own_prefix q (enc2_length _)
theorem KL.own (h : KL g r base d l N w w') {b0 n sz : Nat} {T : TypeId} {v : Value} {xs : List Value} (ho : w.ownsRow b0 T sz v n xs) (hs : ∀ k, v.ownBlock = some k → k ≠ g ∧ k ≠ r) : w'.ownsRow b0 T sz v n xs :=
  own_same ho fun k e => h.block k (ho.lt k e).2 (hs k e).1 (hs k e).2
theorem KL.fits (hc : Cur w g l) (hg : w.grownBy w' (some r)) (hr : g < r) {x y : Int} (ho : w'.ownsRow base 110 2 (.slice (some ⟨r, 0, none⟩) (N.length + 1) d) (N.length + 1) (enc2 (N ++ [(x, y)]))) : KL g r base d l N w w' :=
  ⟨hg.os, hg.tape, hg.output, hg.size, fun k hk _ h2 => hg.block k hk (fun e => h2 (by injection e)), hc.grown hg hr, .inr ⟨x, y, ho⟩⟩
theorem KL.bx (h : KL g r base d l N w w') {bs : List (Nat × List Value)} (hb : Bx bs w) (ha : Ap (some g) bs) (hr : Ap (some r) bs) : Bx bs w' := by
  refine Bx.same h.size (fun p hp => ?_) hb
  have : p.1 < w.heap.size ∧ p.1 ≠ g ∧ p.1 ≠ r := by
    clear h
    induction bs with
    | nil => cases hp
    | cons q bs ih =>
      rcases List.mem_cons.1 hp with e | e
      · subst e
        exact ⟨hb.1.1, fun e => ha.1 (by rw [e]), fun e => hr.1 (by rw [e])⟩
      · exact ih hb.2 ha.2 hr.2 e
  exact h.block _ this.1 this.2.1 this.2.2
end
/-- The list appended to, as a value. -/
def AppL (r base d lo g : Nat) (N : List P2) (v : Value) (w : World) : Prop :=
  ∃ (x y : Int) (A : Option Addr) (c : Nat), v = .slice A (N.length + 1) c ∧ w.ownsRow base 110 2 (.slice A (N.length + 1) c) (N.length + 1) (enc2 (N ++ [(x, y)])) ∧ ((A = some ⟨r, 0, none⟩ ∧ c = d) ∨ ∀ k, (Value.slice A (N.length + 1) c).ownBlock = some k → lo ≤ k ∧ k ≠ g ∧ k ≠ r)
theorem AppL.stab {g r base d lo : Nat} {l : List Int} {N : List P2} (hne : r ≠ g) : StabK (KL g r base d l N) (AppL r base d lo g N) := by
  rintro v w w' ⟨x, y, A, c, h1, h2, h3⟩ hK
  rcases h3 with ⟨rfl, rfl⟩ | h3
  · rcases hK.row with q | ⟨x', y', q⟩
    · exact ⟨x, y, _, _, h1, own_same h2 fun i e => by have e : some r = some i := e; injection e with e; subst e; exact q, .inl ⟨rfl, rfl⟩⟩
    · exact ⟨x', y', _, _, h1, q, .inl ⟨rfl, rfl⟩⟩
  · exact ⟨x, y, A, c, h1, hK.own h2 fun k e => (h3 k e).2, .inr h3⟩
set_option maxRecDepth 20000 in
set_option maxHeartbeats 40000000 in
theorem l04Any_any (g : Nat) (l : List Int) (w : World) (hl : l.length ≤ 1048576) (hc : Cur w g l) :
    Calls Tryz.prog 81 #[.pointer (some ⟨g, 0, none⟩)] w fun e w' => ∃ N E A B c c', e = .returned (.agg #[.slice A N.length c, .slice B E.length c']) ∧ N.length ≤ 14 ∧ E.length ≤ 22 ∧ WB w' w.heap.size N E A B c c' ∧ Gx g l w w' := by
  have HC := hide hc
  have hgl := hc.lt
  clear hc
  
  go_enter Tryz.func81, Tryz.ntmps81
  go_wp2_with fail
  obtain ⟨w0, hw⟩ : ∃ w1, w1 = w.alloc (Obj.cells #[Value.slice none 0 0, Value.slice none 0 0] 27) := ⟨_, rfl⟩; rw [← hw]; have kT : Tr [(w.heap.size, [.slice none 0 0, .slice none 0 0])] w w0 := (by rw [hw]; exact ⟨by (first | (simp [Bx, CellsAt, go_sem, *]; done) | (simp [Bx, CellsAt, go_sem, *]; omega)), by (repeat (first | exact kE | exact Ext.refl _ | apply Ext.alloc | apply Ext.drewN | apply Ext.drew | apply Ext.set0 | apply Ext.set1 | apply Ext.set2 | apply Ext.set3 | (refine Ext.setk ?_ (by omega) _) | (apply Ext.snoc; assumption)))⟩); have HT := hide kT; clear hw kT; have kT := HT.out; simp only [Tr, Bx, CellsAt, Nat.reduceAdd, Nat.zero_add, and_true] at kT; obtain ⟨⟨kz0, kf0, kc0_0, kc0_1⟩, kE⟩ := kT
  have HG0 := hide (Gx.ext HC.out kE)
  have hng : ¬ w.heap.size = g := by omega
  have hs0 := kz0
  have HT' := hide (show Tr [(w.heap.size, [.slice none 0 0, .slice none 0 0])] w0 w0 from ⟨HT.out.1, Ext.refl _⟩)
  clear kz0 kf0 kc0_0 kc0_1 kE
  clear HT; have HT := HT'; clear HT'
  have kT := HT.out; simp only [Tr, Bx, CellsAt, Nat.reduceAdd, Nat.zero_add, and_true] at kT; obtain ⟨⟨kz0, kf0, kc0_0, kc0_1⟩, kE⟩ := kT
  refine (l04Window_any g l _ hl HG0.out.cur).mono ?_
  rintro e w2 ⟨N, E, A, B, c, c', rfl, ⟨hN5, hN13, hE4, hE8⟩, hwn, hgx⟩
  have HN2 := hide hwn
  have HG2 := hide (HG0.out.trans hgx)
  have hz2 := hgx.size
  have HT' := hide (hgx.tr (by simp [Ap]; omega) HT.out)
  clear hwn hgx HG0
  clear kz0 kf0 kc0_0 kc0_1 kE
  clear HT; have HT := HT'; clear HT'
  have kT := HT.out; simp only [Tr, Bx, CellsAt, Nat.reduceAdd, Nat.zero_add, and_true] at kT; obtain ⟨⟨kz0, kf0, kc0_0, kc0_1⟩, kE⟩ := kT
  go_wp2_with fail
  obtain ⟨w3, hw⟩ : ∃ w1, w1 = w2.alloc (Obj.cells #[Value.slice A N.length c, Value.slice B E.length c'] 27) := ⟨_, rfl⟩; rw [← hw]; have Hw3 := hide (show Ext w2 w3 from (by (rw [hw]; (try clear kE); repeat (first | exact kE | exact Ext.refl _ | apply Ext.alloc | apply Ext.drewN | apply Ext.drew | apply Ext.set0 | apply Ext.set1 | apply Ext.set2 | apply Ext.set3 | (refine Ext.setk ?_ (by omega) _) | (apply Ext.snoc; assumption))))); have HT := hide (HT.out.more Hw3.out (w2.heap.size) [.slice A N.length c, .slice B E.length c'] (by (rw [hw]; first | (simp [CellsAt, go_sem, *]; done) | (simp [CellsAt, go_sem, *]; omega)))); have Zw3 := hide (congrArg (fun z : World => z.heap.size) hw); clear hw kz0 kf0 kc0_0 kc0_1 kE; have kT := HT.out; simp only [Tr, Bx, CellsAt, Nat.reduceAdd, Nat.zero_add, and_true] at kT; obtain ⟨⟨⟨kz0, kf0, kc0_0, kc0_1⟩, ⟨kz1, kf1, kc1_0, kc1_1⟩⟩, kE⟩ := kT
  have HD3 := hide ((WN.wd (base := w.heap.size + 1) (b := w.heap.size) HN2.out (by omega) (by omega)).wn.ext Hw3.out)
  have HBN := hide (show (∀ k, (Value.slice A N.length c).ownBlock = some k → k < w2.heap.size) ∧ ∀ k, (Value.slice B E.length c').ownBlock = some k → k < w2.heap.size from ⟨fun k e => (HN2.out.nodes.lt k e).2, fun k e => (HN2.out.leads.lt k e).2⟩)
  have HG3 := hide (HG2.out.trans (Gx.ext HG2.out.cur Hw3.out))
  have hb3 : w.heap.size + 1 ≤ w2.heap.size := by omega
  obtain ⟨b3, hb3e⟩ : ∃ b, b = w2.heap.size := ⟨_, rfl⟩
  rw [← hb3e] at HT kz0 kf0 kc0_0 kc0_1 hb3 HBN ⊢
  clear HN2 HG2 Hw3 Zw3 hb3e hz2
  refine (l01Below_any g 12 l _ hl (by omega) (by omega) HG3.out.cur).mono ?_; rintro e w4 ⟨x, rfl, hx0, hx1, hc1, hg1⟩
  have HG1 := hide (Gx.mk hg1 hc1)
  have HD4 := hide (show WD w4 (w.heap.size + 1) b3 N E A B c c' from ⟨(HD3.out.gx HG1.out (by omega)).nodes, (HD3.out.gx HG1.out (by omega)).leads, fun k e => by have := HBN.out.1 k e; omega, fun k e => by have := HBN.out.2 k e; omega⟩)
  
  have HT' := hide (HG1.out.tr (by simp [Ap]; omega) HT.out)
  have HG4 := hide (HG3.out.trans HG1.out)
  have hgb : g < b3 := by omega
  have hz4 := hg1.size
  have HB3 := hide HBN.out
  clear hc1 hg1 HG1 HG3 HD3 HBN
  clear kz0 kf0 kc0_0 kc0_1 kz1 kf1 kc1_0 kc1_1 kE
  clear HT; have HT := HT'; clear HT'
  have kT := HT.out; simp only [Tr, Bx, CellsAt, Nat.reduceAdd, Nat.zero_add, and_true] at kT; obtain ⟨⟨⟨kz0, kf0, kc0_0, kc0_1⟩, ⟨kz1, kf1, kc1_0, kc1_1⟩⟩, kE⟩ := kT
  have HC4 := hide HG4.out.cur
  have hgw : g < w.heap.size + 1 := by omega
  by_cases x0 : x = 0
  · subst x0
    obtain ⟨r, rfl, hr1, hr2⟩ : ∃ r, A = some ⟨r, 0, none⟩ ∧ w.heap.size + 1 ≤ r ∧ r < b3 := by
      obtain ⟨Aq, cq, e1, _, q0, q1⟩ := own_slice HD4.out.nodes
      injection e1 with e1 _ e2
      subst e1 e2
      cases A with
      | none => exact absurd (q0 rfl) (by omega)
      | some ad =>
        obtain ⟨r, rfl, q2, _, q3⟩ := q1 _ rfl
        exact ⟨r, rfl, q2, HB3.out.1 r q3⟩
    have HAP := hide (own_apart2 HD4.out.leads HD4.out.nodes (by decide))
    have hrg : r ≠ g := by omega
    have hr4 : r < w4.heap.size := by omega
    have HNW := hide (fun (W : World) (hG : Gx g l w4 W) => (HD4.out.gx hG (by omega)))
    
    go_upto_region 4 with fail
    apply wp_region_GSL (K := Gx g l) 10 9 11 57 (by kernel_rfl) (Gx.drew HC4.out) (fun h1 h2 => h1.trans h2) [fun v _ => v = _, fun v _ => v = _, fun v _ => v = _, fun v _ => v = _, fun v _ => v = _, fun v _ => v = .int .i64 (N.length : Int), fun v _ => ∃ x : Nat, v = .int .i64 (x : Int) ∧ x < N.length, fun v _ => v = _, fun v _ => ∃ x y : Int, v = .agg #[.int .i64 x, .int .i64 y], fun v _ => ∃ k : Nat, k < N.length ∧ v = .pointer (some ⟨r, k * 2, none⟩), fun _ _ => True] (fun v w'' => ∃ (k : Nat) (x y : Int) (w1 : World), k < N.length ∧ Gx g l w4 w1 ∧ w'' = (w1.setCell ⟨r, k * 2, none⟩ (.int .i64 x)).setCell ⟨r, k * 2 + 1, none⟩ (.int .i64 y)) rfl (by kernel_rfl) (by kernel_rfl) (by kernel_rfl) (by kernel_rfl) (by kernel_rfl) (by kernel_rfl) (by kernel_rfl) rfl ⟨stabk_eq _ _, stabk_eq _ _, stabk_eq _ _, stabk_eq _ _, stabk_eq _ _, stabk_eq _ _, stabk_any _ _, stabk_eq _ _, stabk_any _ _, stabk_any _ _, stabk_true _, trivial⟩ (by kernel_rfl) ?R4hop ?R4hst ?R4hop2 ?R4fin
    case R4hop =>
      intro a w' hE hA
      have c0 := hE.cell kz0 (by omega) kc0_0
      have c1 := hE.cell kz0 (by omega) kc0_1
      have f0 := hE.frz kz0 (by omega) kf0
      have z0 : b3 < w'.heap.size := Nat.lt_of_lt_of_le kz0 hE.size
      have hcu := hide hE.cur
      have hnw := (HNW.out _ hE).nodes
      have hcl : ∀ k, k < N.length → w'.cell? ⟨r, k * 2, none⟩ = some (.int .i64 (N.getD k (0, 0)).1) := fun k hk => by
        rw [hnw.cellAt _ (by omega), (enc2_get N k hk).1]
        simp [hk]
      have hcm : ∀ k, k < N.length → w'.cell? ⟨r, k * 2 + 1, none⟩ = some (.int .i64 (N.getD k (0, 0)).2) := fun k hk => by
        rw [hnw.cellAt _ (by omega), (enc2_get N k hk).2]
        simp [hk]
      have hfr := fun j => hnw.frozenAt j
      have HE := hide hE
      refine ⟨⟨⟨⟨⟨⟨⟨⟨⟨⟨⟨trivial, ?_⟩, ?_⟩, ?_⟩, ?_⟩, ?_⟩, ?_⟩, ?_⟩, ?_⟩, ?_⟩, ?_⟩, ?_⟩
      · intro _ _ hp
        have s3 := hA 3 (by rfl)
        simp [sl] at s3
        clear hp
        refine wpOp_of_list rfl rfl ?_
        go_wp2_with (fail)
        exact ⟨_, rfl, rfl, Gx.refl hcu.out⟩
      · intro _ _ hp
        have s10 := hp 0 (by rfl)
        change a.tmps.getD 10 undef = _ at s10
        simp at s10
        clear hp
        refine wpOp_of_list rfl rfl ?_
        go_wp2_with (fail)
        exact ⟨_, rfl, rfl, Gx.refl hcu.out⟩
      · intro _ _ hp
        have s0 := hA 0 (by rfl)
        simp [sl] at s0
        clear hp
        refine wpOp_of_list rfl rfl ?_
        go_wp2_with (fail)
        exact ⟨_, rfl, rfl, Gx.refl hcu.out⟩
      · intro _ _ hp
        have s3 := hA 3 (by rfl)
        simp [sl] at s3
        clear hp
        refine wpOp_of_list rfl rfl ?_
        go_wp2_with (fail)
        exact ⟨_, rfl, rfl, Gx.refl hcu.out⟩
      · intro _ _ hp
        have s13 := hp 3 (by rfl)
        change a.tmps.getD 13 undef = _ at s13
        simp at s13
        clear hp
        refine wpOp_of_list rfl rfl ?_
        go_wp2_with (fail)
        exact ⟨_, rfl, rfl, Gx.refl hcu.out⟩
      · intro _ _ hp
        have s14 := hp 4 (by rfl)
        change a.tmps.getD 14 undef = _ at s14
        simp at s14
        clear hp
        refine wpOp_of_list rfl rfl ?_
        go_wp2_with (fail)
        exact ⟨_, rfl, by first | rfl | (congr 1; omega) | (congr 1; simp; omega), Gx.refl hcu.out⟩
      · intro _ _ hp
        have s12 := hp 2 (by rfl)
        change a.tmps.getD 12 undef = _ at s12
        simp at s12
        have s15 := hp 5 (by rfl)
        obtain s15 := s15
        change a.tmps.getD 15 undef = _ at s15
        simp at s15
        clear hp
        refine wpOp_of_list rfl rfl ?_
        go_wp2_with (go_at_call 58; refine (l01Below_any g N.length l _ hl (by omega) (by omega) hcu.out).mono ?_; rintro e wq ⟨x, rfl, hx0, hx1, hcq, hgq⟩; obtain ⟨x, rfl⟩ := Int.eq_ofNat_of_zero_le hx0)
        exact ⟨_, rfl, ⟨x, rfl, by omega⟩, ⟨hgq, hcq⟩⟩
      · intro _ _ hp
        have s0 := hA 0 (by rfl)
        simp [sl] at s0
        clear hp
        refine wpOp_of_list rfl rfl ?_
        go_wp2_with (fail)
        exact ⟨_, rfl, rfl, Gx.refl hcu.out⟩
      · intro _ _ hp
        have s17 := hp 7 (by rfl)
        change a.tmps.getD 17 undef = _ at s17
        simp at s17
        clear hp
        refine wpOp_of_list rfl rfl ?_
        go_wp2_with (go_at_call 111; refine (l02Any_any g l _ hl hcu.out).mono ?_; rintro e wq ⟨x, y, rfl, hcq, hgq⟩)
        exact ⟨_, rfl, ⟨x, y, rfl⟩, ⟨hgq, hcq⟩⟩
      · intro _ _ hp
        have s11 := hp 1 (by rfl)
        change a.tmps.getD 11 undef = _ at s11
        simp at s11
        have s16 := hp 6 (by rfl)
        obtain ⟨x, s16, hx⟩ := s16
        change a.tmps.getD 16 undef = _ at s16
        simp at s16
        clear hp
        refine wpOp_of_list rfl rfl ?_
        go_wp2_with (fail)
        exact ⟨_, rfl, ⟨x, hx, by first | rfl | simp⟩, Gx.refl hcu.out⟩
      · intro h; exact absurd rfl h
    case R4hst =>
      intro a w' hE hA hp
      have c0 := hE.cell kz0 (by omega) kc0_0
      have c1 := hE.cell kz0 (by omega) kc0_1
      have f0 := hE.frz kz0 (by omega) kf0
      have z0 : b3 < w'.heap.size := Nat.lt_of_lt_of_le kz0 hE.size
      have hcu := hide hE.cur
      have hnw := (HNW.out _ hE).nodes
      have hcl : ∀ k, k < N.length → w'.cell? ⟨r, k * 2, none⟩ = some (.int .i64 (N.getD k (0, 0)).1) := fun k hk => by
        rw [hnw.cellAt _ (by omega), (enc2_get N k hk).1]
        simp [hk]
      have hcm : ∀ k, k < N.length → w'.cell? ⟨r, k * 2 + 1, none⟩ = some (.int .i64 (N.getD k (0, 0)).2) := fun k hk => by
        rw [hnw.cellAt _ (by omega), (enc2_get N k hk).2]
        simp [hk]
      have hfr := fun j => hnw.frozenAt j
      have HE := hide hE
      have s18 := hp 8 (by rfl)
      obtain ⟨x2, y2, s18⟩ := s18
      change a.tmps.getD 18 undef = _ at s18
      simp at s18
      have s19 := hp 9 (by rfl)
      obtain ⟨k, hk, s19⟩ := s19
      change a.tmps.getD 19 undef = _ at s19
      simp at s19
      clear hp
      refine wpOp_of_list rfl rfl ?_
      go_wp2_with fail
      exact ⟨trivial, k, x2, y2, w', hk, HE.out, rfl⟩
    case R4hop2 =>
      intro a w' hA
      refine ⟨⟨⟨⟨⟨⟨⟨⟨⟨⟨⟨trivial, ?_⟩, ?_⟩, ?_⟩, ?_⟩, ?_⟩, ?_⟩, ?_⟩, ?_⟩, ?_⟩, ?_⟩, ?_⟩
      · intro _ hw hp
        exact absurd (hw.symm.trans (by kernel_rfl : _ = true)) Bool.false_ne_true
      · intro _ hw hp
        exact absurd (hw.symm.trans (by kernel_rfl : _ = true)) Bool.false_ne_true
      · intro _ hw hp
        exact absurd (hw.symm.trans (by kernel_rfl : _ = true)) Bool.false_ne_true
      · intro _ hw hp
        exact absurd (hw.symm.trans (by kernel_rfl : _ = true)) Bool.false_ne_true
      · intro _ hw hp
        exact absurd (hw.symm.trans (by kernel_rfl : _ = true)) Bool.false_ne_true
      · intro _ hw hp
        exact absurd (hw.symm.trans (by kernel_rfl : _ = true)) Bool.false_ne_true
      · intro _ hw hp
        exact absurd (hw.symm.trans (by kernel_rfl : _ = true)) Bool.false_ne_true
      · intro _ hw hp
        exact absurd (hw.symm.trans (by kernel_rfl : _ = true)) Bool.false_ne_true
      · intro _ hw hp
        exact absurd (hw.symm.trans (by kernel_rfl : _ = true)) Bool.false_ne_true
      · intro _ hw hp
        exact absurd (hw.symm.trans (by kernel_rfl : _ = true)) Bool.false_ne_true
      · intro h; exact absurd rfl h
    case R4fin =>
      intro X w' hP hp
      obtain ⟨⟨⟨⟨⟨⟨⟨⟨⟨⟨⟨-, h0⟩, h1⟩, h2⟩, h3⟩, h4⟩, h5⟩, h6⟩, h7⟩, h8⟩, h9⟩, h10⟩ := hp
      replace h0 := h0 (by decide)
      obtain ⟨_, h0⟩ := h0
      change X 0 = _ at h0
      replace h1 := h1 (by decide)
      obtain ⟨_, h1⟩ := h1
      change X 1 = _ at h1
      replace h2 := h2 (by decide)
      obtain ⟨_, h2⟩ := h2
      change X 2 = _ at h2
      replace h3 := h3 (by decide)
      obtain ⟨_, h3⟩ := h3
      change X 3 = _ at h3
      replace h4 := h4 (by decide)
      obtain ⟨_, h4⟩ := h4
      change X 4 = _ at h4
      replace h5 := h5 (by decide)
      obtain ⟨_, h5⟩ := h5
      obtain h5 := h5
      change X 5 = _ at h5
      replace h6 := h6 (by decide)
      obtain ⟨_, h6⟩ := h6
      obtain ⟨x, h6, hx⟩ := h6
      change X 6 = _ at h6
      replace h7 := h7 (by decide)
      obtain ⟨_, h7⟩ := h7
      change X 7 = _ at h7
      replace h8 := h8 (by decide)
      obtain ⟨_, h8⟩ := h8
      obtain ⟨x2, y2, h8⟩ := h8
      change X 8 = _ at h8
      replace h9 := h9 (by decide)
      obtain ⟨_, h9⟩ := h9
      obtain ⟨k, hk, h9⟩ := h9
      change X 9 = _ at h9
      clear h10
      go_simp
      clear h0 h1 h2 h3 h4 h5 h6 h7 h8 h9
      obtain ⟨k9, x9, y9, w8, hk9, hgx, hw⟩ := hP
      have HN8 := hide (HNW.out _ hgx)
      have HG8 := hide (HG4.out.trans hgx)
      have hsz8 := HG8.out.size
      have HT8 := hide (hgx.tr (w0 := w4) (by simp [Ap]; omega) HT.out)
      have HB9 := hide (show WB w' (w.heap.size + 1) (N.set k9 (x9, y9)) E (some ⟨r, 0, none⟩) B c c' from by
        have hs1 := (HN8.out.nodes.stored (k9 * 2) (.int .i64 x9)).1
        have hs2 := (hs1.stored (k9 * 2 + 1) (.int .i64 y9)).1
        rw [enc2_set] at hs2
        have hla := own_setn (own_setn HN8.out.leads (k := r) (o := k9 * 2) (fun j e e2 => HAP.out j e (by rw [e2]; rfl)) (.int .i64 x9)) (k := r) (o := k9 * 2 + 1) (fun j e e2 => HAP.out j e (by rw [e2]; rfl)) (.int .i64 y9)
        have hwd : WD w' (w.heap.size + 1) b3 (N.set k9 (x9, y9)) E (some ⟨r, 0, none⟩) B c c' := by
          rw [hw]
          exact ⟨by rw [List.length_set]; exact hs2, hla, by rw [List.length_set]; exact HN8.out.an, HN8.out.al⟩
        exact hwd.wb (by rw [List.length_set]; omega) (by omega))
      have HG9 := hide (show Gx g l w w' from by
        rw [hw]
        exact ⟨grown_new (grown_new HG8.out.gr (by omega) _ _) (by omega) _ _, (HG8.out.cur.setk (by omega) _ _).setk (by omega) _ _⟩)
      have HT9 := hide (show Tr [(b3, [.slice (some ⟨r, 0, none⟩) N.length c, .slice B E.length c']), (w.heap.size, [.slice none 0 0, .slice none 0 0])] w' w' from by
        refine ⟨?_, Ext.refl _⟩
        rw [hw]
        exact Bx.grownA (row := some r) (grown_set (grown_set (World.grownBy.refl w8 (some r)) _ _) _ _) (by simp [Ap]; omega) HT8.out.1)
      clear hw hgx HN8 HG8 HT8
      clear kz0 kf0 kc0_0 kc0_1 kz1 kf1 kc1_0 kc1_1 kE
      clear HT; have HT := HT9; clear HT9
      have kT := HT.out; simp only [Tr, Bx, CellsAt, Nat.reduceAdd, Nat.zero_add, and_true] at kT; obtain ⟨⟨⟨kz0, kf0, kc0_0, kc0_1⟩, ⟨kz1, kf1, kc1_0, kc1_1⟩⟩, kE⟩ := kT
      go_wp2_with fail
      refine bodyPost_ret (v := .agg #[.slice (some ⟨r, 0, none⟩) N.length c, .slice B E.length c']) (by simp only [results, Tryz.results81]; go_simp) rfl ⟨N.set k9 (x9, y9), E, (some ⟨r, 0, none⟩), B, c, c', by simp, by (simp; omega), by omega, ((HB9.out.low (k := w.heap.size) (by omega) 0 _).low (k := w.heap.size) (by omega) 1 _).mono (by omega), ⟨grown_new (grown_new HG9.out.gr (Nat.le_refl _) _ _) (Nat.le_refl _) _ _, (HG9.out.cur.setk hgl _ _).setk hgl _ _⟩⟩
  · have x0' : (x == 0) = false := by rw [beq_eq_false_iff_ne]; exact x0
    by_cases x1 : x = 1
    · subst x1
      obtain ⟨r, rfl, hr1, hr2⟩ : ∃ r, B = some ⟨r, 0, none⟩ ∧ w.heap.size + 1 ≤ r ∧ r < b3 := by
        obtain ⟨Aq, cq, e1, _, q0, q1⟩ := own_slice HD4.out.leads
        injection e1 with e1 _ e2
        subst e1 e2
        cases B with
        | none => exact absurd (q0 rfl) (by omega)
        | some ad =>
          obtain ⟨r, rfl, q2, _, q3⟩ := q1 _ rfl
          exact ⟨r, rfl, q2, HB3.out.2 r q3⟩
      have HAP := hide (own_apart2 HD4.out.nodes HD4.out.leads (by decide))
      have hrg : r ≠ g := by omega
      have hr4 : r < w4.heap.size := by omega
      have hgz : g < w4.heap.size := by omega
      obtain ⟨i0, hi, hz0, hz1, hz2⟩ := info_parts leadI_info
      have HT0 := hide (show Tr [(b3, [.slice A N.length c, .slice (some ⟨r, 0, none⟩) E.length c']), (w.heap.size, [.slice none 0 0, .slice none 0 0])] w4 w4 from ⟨HT.out.1, Ext.refl _⟩)
      
      clear kz0 kf0 kc0_0 kc0_1 kz1 kf1 kc1_0 kc1_1 kE
      clear HT; have HT := HT0; clear HT0
      have kT := HT.out; simp only [Tr, Bx, CellsAt, Nat.reduceAdd, Nat.zero_add, and_true] at kT; obtain ⟨⟨⟨kz0, kf0, kc0_0, kc0_1⟩, ⟨kz1, kf1, kc1_0, kc1_1⟩⟩, kE⟩ := kT
      go_upto_region 6 with fail
      apply wp_region_GRL (K := KL g r (w.heap.size + 1) c' l E) 9 57 (by kernel_rfl) (KL.of_gx (Gx.drew HC4.out) hr4 hrg) (fun h1 h2 => h1.trans h2) (by kernel_rfl) (by kernel_rfl) (by kernel_rfl) (by kernel_rfl) (by kernel_rfl) rfl [fun v _ => v = _, fun v _ => v = _, fun v _ => v = _, fun v _ => v = _, fun v _ => v = _, fun v _ => v = .int .i64 (N.length : Int), fun v _ => ∃ x y : Int, v = .agg #[.int .i64 x, .int .i64 y], fun v w' => ∃ (q : Nat) (x y : Int), v = .slice (some ⟨q, 0, none⟩) 1 1 ∧ w4.heap.size ≤ q ∧ q < w'.heap.size ∧ w'.cell? ⟨q, 0, none⟩ = some (.int .i64 x) ∧ w'.cell? ⟨q, 1, none⟩ = some (.int .i64 y), AppL r (w.heap.size + 1) c' w4.heap.size g E] rfl ⟨stabk_eq _ _, stabk_eq _ _, stabk_eq _ _, stabk_eq _ _, stabk_eq _ _, stabk_eq _ _, stabk_any _ _, (fun v W W' ⟨q, x, y, h1, h2, h3, h4, h5⟩ hK => ⟨q, x, y, h1, h2, Nat.lt_of_lt_of_le h3 hK.size, (World.cell?_of_block (hK.block q h3 (by omega) (by omega))).trans h4, (World.cell?_of_block (hK.block q h3 (by omega) (by omega))).trans h5⟩), AppL.stab hrg, trivial⟩ ?R6hop ?R6fin
      case R6hop =>
        intro a w' hE hA
        have hsz := hE.size
        have kX := hE.bx HT.out.1 (by simp [Ap]; omega) (by simp [Ap]; omega)
        have c0 := kX.1.2.2.1
        have c1 := kX.1.2.2.2.1
        have f0 := kX.1.2.1
        have z0 := kX.1.1
        simp at c1
        clear kX
        have hcu := hide hE.cur
        have hrz : r < w'.heap.size := by omega
        have HOLD := hide (hE.old HD4.out.leads)
        have HE := hide hE
        clear hE
        refine ⟨⟨⟨⟨⟨⟨⟨⟨⟨trivial, ?_⟩, ?_⟩, ?_⟩, ?_⟩, ?_⟩, ?_⟩, ?_⟩, ?_⟩, ?_⟩
        · intro hp
          have s3 := hA 3 (by rfl)
          simp [sl] at s3
          clear hp
          refine wpOp_of_list rfl rfl ?_
          go_wp2_with (fail)
          exact ⟨_, rfl, rfl, KL.of_gx (Gx.refl hcu.out) hrz hrg⟩
        · intro hp
          have s22 := hp 0 (by rfl)
          change a.tmps.getD 22 undef = _ at s22
          simp at s22
          clear hp
          refine wpOp_of_list rfl rfl ?_
          go_wp2_with (fail)
          exact ⟨_, rfl, rfl, KL.of_gx (Gx.refl hcu.out) hrz hrg⟩
        · intro hp
          have s0 := hA 0 (by rfl)
          simp [sl] at s0
          clear hp
          refine wpOp_of_list rfl rfl ?_
          go_wp2_with (fail)
          exact ⟨_, rfl, rfl, KL.of_gx (Gx.refl hcu.out) hrz hrg⟩
        · intro hp
          have s3 := hA 3 (by rfl)
          simp [sl] at s3
          clear hp
          refine wpOp_of_list rfl rfl ?_
          go_wp2_with (fail)
          exact ⟨_, rfl, rfl, KL.of_gx (Gx.refl hcu.out) hrz hrg⟩
        · intro hp
          have s25 := hp 3 (by rfl)
          change a.tmps.getD 25 undef = _ at s25
          simp at s25
          clear hp
          refine wpOp_of_list rfl rfl ?_
          go_wp2_with (fail)
          exact ⟨_, rfl, rfl, KL.of_gx (Gx.refl hcu.out) hrz hrg⟩
        · intro hp
          have s26 := hp 4 (by rfl)
          change a.tmps.getD 26 undef = _ at s26
          simp at s26
          clear hp
          refine wpOp_of_list rfl rfl ?_
          go_wp2_with (fail)
          exact ⟨_, rfl, by first | rfl | (congr 1; omega) | (congr 1; simp; omega), KL.of_gx (Gx.refl hcu.out) hrz hrg⟩
        · intro hp
          have s24 := hp 2 (by rfl)
          change a.tmps.getD 24 undef = _ at s24
          simp at s24
          have s27 := hp 5 (by rfl)
          obtain s27 := s27
          change a.tmps.getD 27 undef = _ at s27
          simp at s27
          clear hp
          refine wpOp_of_list rfl rfl ?_
          go_wp2_with (go_at_call 112; refine (l03Lead_any g N.length l _ hl hcu.out ⟨by omega, by omega⟩).mono ?_; rintro e wq ⟨x, y, rfl, hcq, hgq⟩)
          exact ⟨_, rfl, ⟨x, y, rfl⟩, KL.of_gx ⟨hgq, hcq⟩ hrz hrg⟩
        · intro hp
          have s28 := hp 6 (by rfl)
          obtain ⟨x, y, s28⟩ := s28
          change a.tmps.getD 28 undef = _ at s28
          simp at s28
          clear hp
          refine wpOp_of_list rfl rfl ?_
          go_wp2_with (fail)
          exact ⟨_, rfl, ⟨w'.heap.size, x, y, rfl, hsz, by simp, by simp [go_sem], by simp [go_sem]⟩, KL.of_gx (Gx.ext hcu.out ((Ext.refl _).alloc _)) hrz hrg⟩
        · intro hp
          have s23 := hp 1 (by rfl)
          change a.tmps.getD 23 undef = _ at s23
          simp at s23
          have s29 := hp 7 (by rfl)
          obtain ⟨q, x, y, s29, hq1, hq2, hq3, hq4⟩ := s29
          change a.tmps.getD 29 undef = _ at s29
          simp at s29
          clear hp
          refine wpOp_of_list rfl rfl ?_
          have hnw : ∀ j u, [Value.int .i64 x, Value.int .i64 y][j]? = some u → w'.cell? ((⟨q, 0, none⟩ : Addr).add j) = some u := news_rds (fun j v hj => by
            match j, hj with
            | 0, hj => simp at hj; rw [← hj]; simpa using hq3
            | 1, hj => simp at hj; rw [← hj]; simpa using hq4)
          have hold := HOLD.out
          by_cases hfit : E.length + 1 ≤ c'
          · refine wpList_append_fits _ rfl _ _ 25 rfl (w.heap.size + 1) 110 i0 2 Tryz.underlying25 hi hz1 r E.length c' (enc2 E) (by simp [go_sem, s23]) hold ⟨q, 0, none⟩ 1 1 [.int .i64 x, .int .i64 y] (by simp [go_sem, s29]) rfl hnw (one2n _ _) hfit ?_
            intro w9 hown9 hgrow9
            go_wp2_with fail
            have ho : w9.ownsRow (w.heap.size + 1) 110 2 (.slice (some ⟨r, 0, none⟩) (E.length + 1) c') (E.length + 1) (enc2 (E ++ [(x, y)])) := by rw [enc2_snoc']; exact hown9
            exact ⟨_, rfl, ⟨x, y, _, _, rfl, ho, .inl ⟨rfl, rfl⟩⟩, KL.fits hcu.out hgrow9 (by omega) ho⟩
          · refine wpList_append_grows _ rfl _ _ 25 rfl 110 i0 (.agg #[.int .i64 0, .int .i64 0]) 2 16 Tryz.underlying25 hi hz0 hz1 hz2 rfl (by decide) (some ⟨r, 0, none⟩) E.length c' (enc2 E) (by simp [go_sem, s23]) (fun e => by cases e) (enc2_length _) (fun b e j u hu => by injection e with e; subst e; exact news_rds (fun j v hj => by rw [Nat.zero_add, hold.cellAt j (by have h := (List.getElem?_eq_some_iff.1 hj).1; rwa [enc2_length] at h)]; exact hj) j u hu) ⟨q, 0, none⟩ 1 1 [.int .i64 x, .int .i64 y] (by simp [go_sem, s29]) rfl hnw (one2n _ _) (by omega) (by unfold maxLen; omega) (by omega) ?_
            intro v' w9 hown9 hgrow9
            obtain ⟨A9, c9, rfl, _⟩ := own_slice hown9
            go_wp2_with fail
            have ho : w9.ownsRow (w.heap.size + 1) 110 2 (.slice A9 (E.length + 1) c9) (E.length + 1) (enc2 (E ++ [(x, y)])) := by rw [enc2_snoc']; exact own_mono hown9 (by omega)
            exact ⟨_, rfl, ⟨x, y, _, _, rfl, ho, .inr (fun k e => by have := (hown9.lt k e).1; omega)⟩, KL.of_gx (Gx.ext hcu.out (grown_ext hgrow9)) hrz hrg⟩
      case R6fin =>
        intro X w' hE hp
        obtain ⟨⟨⟨⟨⟨⟨⟨⟨⟨-, h0⟩, h1⟩, h2⟩, h3⟩, h4⟩, h5⟩, h6⟩, h7⟩, h8⟩ := hp
        change X 0 = _ at h0
        change X 1 = _ at h1
        change X 2 = _ at h2
        change X 3 = _ at h3
        change X 4 = _ at h4
        obtain h5 := h5
        change X 5 = _ at h5
        obtain ⟨x, y, h6⟩ := h6
        change X 6 = _ at h6
        obtain ⟨q, x, y, h7, hq1, hq2, hq3, hq4⟩ := h7
        change X 7 = _ at h7
        obtain ⟨x, y, A7, c7, h8, hown, hwhere⟩ := h8
        change X 8 = _ at h8
        simp only [List.drop_succ_cons, List.drop_zero]
        go_simp
        have HAW := hide (show ∀ k, (Value.slice A7 (E.length + 1) c7).ownBlock = some k → w.heap.size + 1 ≤ k ∧ k ≠ b3 from by
          rcases hwhere with ⟨rfl, rfl⟩ | q
          · intro k e
            have e : some r = some k := e
            injection e with e
            omega
          · intro k e
            have := (q k e).1
            omega)
        have HOX := hide hown
        have HN8 := hide (hE.own HD4.out.nodes (fun k e => ⟨by have := (HD4.out.nodes.lt k e).1; omega, fun e2 => HAP.out k e (by rw [e2]; rfl)⟩))
        have HT' := hide (show Tr [(b3, [.slice A N.length c, .slice (some ⟨r, 0, none⟩) E.length c']), (w.heap.size, [.slice none 0 0, .slice none 0 0])] w' w' from ⟨hE.bx HT.out.1 (by simp [Ap]; omega) (by simp [Ap]; omega), Ext.refl _⟩)
        have HG8 := hide (show Gx g l w w' from ⟨⟨hE.os.trans HG4.out.gr.os, hE.tape.trans HG4.out.gr.tape, hE.output.trans HG4.out.gr.output, Nat.le_trans HG4.out.size hE.size, fun k hk hne => (hE.block k (Nat.lt_of_lt_of_le hk HG4.out.size) (fun e => hne (by rw [e])) (by omega)).trans (HG4.out.gr.block k hk hne)⟩, hE.cur⟩)
        have hz8 := hE.size
        have HB9 := hide (show WB (w'.setCell ⟨b3, 1, none⟩ (.slice A7 (E.length + 1) c7)) (w.heap.size + 1) N (E ++ [(x, y)]) A A7 c c7 from by
          have hwd : WD (w'.setCell ⟨b3, 1, none⟩ (.slice A7 (E.length + 1) c7)) (w.heap.size + 1) b3 N (E ++ [(x, y)]) A A7 c c7 := ⟨own_setn HN8.out HD4.out.an _, by simpa using own_setn HOX.out (fun k e => (HAW.out k e).2) (.slice A7 (E.length + 1) c7), HD4.out.an, by simpa using fun k e => (HAW.out k e).2⟩
          exact hwd.wb (by omega) (by simp; omega))
        have HG9 := hide (show Gx g l w (w'.setCell ⟨b3, 1, none⟩ (.slice A7 (E.length + 1) c7)) from ⟨grown_new HG8.out.gr (by omega) _ _, HG8.out.cur.setk hgb _ _⟩)
        clear hE hown hwhere HOX HN8 HG8 HAW
        clear kz0 kf0 kc0_0 kc0_1 kz1 kf1 kc1_0 kc1_1 kE
        clear HT; have HT := HT'; clear HT'
        have kT := HT.out; simp only [Tr, Bx, CellsAt, Nat.reduceAdd, Nat.zero_add, and_true] at kT; obtain ⟨⟨⟨kz0, kf0, kc0_0, kc0_1⟩, ⟨kz1, kf1, kc1_0, kc1_1⟩⟩, kE⟩ := kT
        go_wp2_with fail
        refine bodyPost_ret (v := .agg #[.slice A N.length c, .slice A7 (E.length + 1) c7]) (by simp only [results, Tryz.results81]; go_simp) rfl ⟨N, (E ++ [(x, y)]), A, A7, c, c7, by simp, by omega, by (simp; omega), ((HB9.out.low (k := w.heap.size) (by omega) 0 _).low (k := w.heap.size) (by omega) 1 _).mono (by omega), ⟨grown_new (grown_new HG9.out.gr (Nat.le_refl _) _ _) (Nat.le_refl _) _ _, (HG9.out.cur.setk hgl _ _).setk hgl _ _⟩⟩
    · have x1' : (x == 1) = false := by rw [beq_eq_false_iff_ne]; exact x1
      by_cases x2 : x = 2
      · subst x2
        obtain ⟨r, rfl, hr1, hr2⟩ : ∃ r, A = some ⟨r, 0, none⟩ ∧ w.heap.size + 1 ≤ r ∧ r < b3 := by
          obtain ⟨Aq, cq, e1, _, q0, q1⟩ := own_slice HD4.out.nodes
          injection e1 with e1 _ e2
          subst e1 e2
          cases A with
          | none => exact absurd (q0 rfl) (by omega)
          | some ad =>
            obtain ⟨r, rfl, q2, _, q3⟩ := q1 _ rfl
            exact ⟨r, rfl, q2, HB3.out.1 r q3⟩
        have hc1 : ¬ c = 1 := by have := (HD4.out.wb (by omega) (by omega)).wr.hc; omega
        have HB9 := hide (((HD4.out.set 0 (.slice (some ⟨r, 2, none⟩) (N.length - 1) (c - 1))).wb (by omega) (by omega)).tail (by omega))
        have HG9 := hide (show Gx g l w (w4.setCell ⟨b3, 0, none⟩ (.slice (some ⟨r, 2, none⟩) (N.length - 1) (c - 1))) from ⟨grown_new HG4.out.gr (by omega) _ _, HG4.out.cur.setk hgb _ _⟩)
        go_wp2_with fail
        refine bodyPost_ret (v := .agg #[.slice (some ⟨r, 2, none⟩) (N.length - 1) (c - 1), .slice B E.length c']) (by simp only [results, Tryz.results81]; go_simp) rfl ⟨N.drop 1, E, (some ⟨r, 2, none⟩), B, (c - 1), c', by simp, by (simp; omega), by omega, ((HB9.out.low (k := w.heap.size) (by omega) 0 _).low (k := w.heap.size) (by omega) 1 _).mono (by omega), ⟨grown_new (grown_new HG9.out.gr (Nat.le_refl _) _ _) (Nat.le_refl _) _ _, (HG9.out.cur.setk hgl _ _).setk hgl _ _⟩⟩
      · have x2' : (x == 2) = false := by rw [beq_eq_false_iff_ne]; exact x2
        by_cases x3 : x = 3
        · subst x3
          have HT0 := hide HT.out
          clear kz0 kf0 kc0_0 kc0_1 kz1 kf1 kc1_0 kc1_1 kE
          clear HT
          go_wp2_with fail
          go_loopw [40] (fun _ wr => ∃ (M : List P2) (A2 : Option Addr) (c2 : Nat), Hid (5 ≤ M.length ∧ M.length ≤ 13) ∧ Hid (WD wr (w.heap.size + 1) b3 M E A2 B c2 c') ∧ Hid (Tr [(b3, [.slice A2 M.length c2, .slice B E.length c']), (w.heap.size, [.slice none 0 0, .slice none 0 0])] wr wr) ∧ Hid (Gx g l w wr)) (fun _ wr => 14 - lenC wr b3)
          case atStart => exact ⟨N, A, c, hide ⟨hN5, hN13⟩, hide HD4.out, HT0, hide HG4.out⟩
          case round =>
            have hE22 : E.length ≤ 21 := by omega
            clear HT0 HG4 HD4 HB3 HC4 hN5 hN13
            obtain ⟨M, A2, c2, HM, HD, HT, HG⟩ := hrel
            obtain ⟨hM5, hM13⟩ := HM.out
            
            have kT := HT.out; simp only [Tr, Bx, CellsAt, Nat.reduceAdd, Nat.zero_add, and_true] at kT; obtain ⟨⟨⟨kz0, kf0, kc0_0, kc0_1⟩, ⟨kz1, kf1, kc1_0, kc1_1⟩⟩, kE⟩ := kT
            have HLR := hide (lenC_eq kc0_0)
            have HC4 := hide HG.out.cur
            go_upto_region 10 with fail
            apply wp_region_GRL (K := Gx g l) 7 57 (by kernel_rfl) (Gx.drew HC4.out) (fun h1 h2 => h1.trans h2) (by kernel_rfl) (by kernel_rfl) (by kernel_rfl) (by kernel_rfl) (by kernel_rfl) rfl [fun v _ => v = _, fun v _ => v = _, fun v _ => v = .int .i64 (M.length : Int), fun v _ => v = _, fun v _ => ∃ x : Nat, v = .int .i64 (x : Int) ∧ x < 2, fun v _ => ∃ y : Nat, v = .int .i64 (y : Int) ∧ y ≤ 13, fun v _ => ∃ bb : Bool, v = .bool bb ∧ (bb = true → M.length < 13)] rfl ⟨stabk_eq _ _, stabk_eq _ _, stabk_eq _ _, stabk_eq _ _, stabk_any _ _, stabk_any _ _, stabk_any _ _, trivial⟩ ?R10hop ?R10fin
            case R10hop =>
              intro a w' hE hA
              have c0 := hE.cell kz0 (by omega) kc0_0
              have c1 := hE.cell kz0 (by omega) kc0_1
              have f0 := hE.frz kz0 (by omega) kf0
              have z0 : b3 < w'.heap.size := Nat.lt_of_lt_of_le kz0 hE.size
              have hcu := hide hE.cur
              refine ⟨⟨⟨⟨⟨⟨⟨trivial, ?_⟩, ?_⟩, ?_⟩, ?_⟩, ?_⟩, ?_⟩, ?_⟩
              · intro hp
                have s3 := hA 3 (by rfl)
                simp [sl] at s3
                clear hp
                refine wpOp_of_list rfl rfl ?_
                go_wp2_with (fail)
                exact ⟨_, rfl, rfl, Gx.refl hcu.out⟩
              · intro hp
                have s40 := hp 0 (by rfl)
                change a.tmps.getD 40 undef = _ at s40
                simp at s40
                clear hp
                refine wpOp_of_list rfl rfl ?_
                go_wp2_with (fail)
                exact ⟨_, rfl, rfl, Gx.refl hcu.out⟩
              · intro hp
                have s41 := hp 1 (by rfl)
                change a.tmps.getD 41 undef = _ at s41
                simp at s41
                clear hp
                refine wpOp_of_list rfl rfl ?_
                go_wp2_with (fail)
                exact ⟨_, rfl, by first | rfl | (congr 1; omega) | (congr 1; simp; omega), Gx.refl hcu.out⟩
              · intro hp
                have s0 := hA 0 (by rfl)
                simp [sl] at s0
                clear hp
                refine wpOp_of_list rfl rfl ?_
                go_wp2_with (fail)
                exact ⟨_, rfl, rfl, Gx.refl hcu.out⟩
              · intro hp
                have s43 := hp 3 (by rfl)
                change a.tmps.getD 43 undef = _ at s43
                simp at s43
                clear hp
                refine wpOp_of_list rfl rfl ?_
                go_wp2_with (go_at_call 58; refine (l01Below_any g 2 l _ hl (by omega) (by omega) hcu.out).mono ?_; rintro e wq ⟨x, rfl, hx0, hx1, hcq, hgq⟩; obtain ⟨x, rfl⟩ := Int.eq_ofNat_of_zero_le hx0)
                exact ⟨_, rfl, ⟨x, rfl, by omega⟩, ⟨hgq, hcq⟩⟩
              · intro hp
                have s44 := hp 4 (by rfl)
                obtain ⟨x, s44, hx⟩ := s44
                change a.tmps.getD 44 undef = _ at s44
                simp at s44
                clear hp
                refine wpOp_of_list rfl rfl ?_
                go_wp2_with (fail)
                exact ⟨_, rfl, ⟨12 + x, by first | rfl | (congr 1; omega) | (congr 1; push_cast; omega), by omega⟩, Gx.refl hcu.out⟩
              · intro hp
                have s42 := hp 2 (by rfl)
                obtain s42 := s42
                change a.tmps.getD 42 undef = _ at s42
                simp at s42
                have s45 := hp 5 (by rfl)
                obtain ⟨y, s45, hy⟩ := s45
                change a.tmps.getD 45 undef = _ at s45
                simp at s45
                clear hp
                refine wpOp_of_list rfl rfl ?_
                go_wp2_with (fail)
                exact ⟨_, rfl, ⟨decide ((M.length : Int) < (y : Int)), by first | rfl | simp, fun h => by have := of_decide_eq_true h; omega⟩, Gx.refl hcu.out⟩
            case R10fin =>
              intro X w' hE hp
              obtain ⟨⟨⟨⟨⟨⟨⟨-, h0⟩, h1⟩, h2⟩, h3⟩, h4⟩, h5⟩, h6⟩ := hp
              change X 0 = _ at h0
              change X 1 = _ at h1
              obtain h2 := h2
              change X 2 = _ at h2
              change X 3 = _ at h3
              obtain ⟨x, h4, hx⟩ := h4
              change X 4 = _ at h4
              obtain ⟨y, h5, hy⟩ := h5
              change X 5 = _ at h5
              obtain ⟨bb, h6, hbb⟩ := h6
              change X 6 = _ at h6
              simp only [List.drop_succ_cons, List.drop_nil]
              refine wpList_nil ?_
              go_simp
              have HG5 := hide (HG.out.trans hE)
              have HD5 := hide (HD.out.gx hE (by omega))
              have HT' := hide (hE.tr (by simp [Ap]; omega) HT.out)
              clear hE HC4 HG HD
              clear kz0 kf0 kc0_0 kc0_1 kz1 kf1 kc1_0 kc1_1 kE
              clear HT; have HT := HT'; clear HT'
              have kT := HT.out; simp only [Tr, Bx, CellsAt, Nat.reduceAdd, Nat.zero_add, and_true] at kT; obtain ⟨⟨⟨kz0, kf0, kc0_0, kc0_1⟩, ⟨kz1, kf1, kc1_0, kc1_1⟩⟩, kE⟩ := kT
              cases bb with
              | false =>
                have HB9 := hide (HD5.out.wb (by omega) (by omega))
                have HG9 := hide HG5.out
                go_wp2_with fail
                refine bodyPost_ret (v := .agg #[.slice A2 M.length c2, .slice B E.length c']) (by simp only [results, Tryz.results81]; go_simp) rfl ⟨M, E, A2, B, c2, c', rfl, by omega, by omega, ((HB9.out.low (k := w.heap.size) (by omega) 0 _).low (k := w.heap.size) (by omega) 1 _).mono (by omega), ⟨grown_new (grown_new HG9.out.gr (Nat.le_refl _) _ _) (Nat.le_refl _) _ _, (HG9.out.cur.setk hgl _ _).setk hgl _ _⟩⟩
              | true =>
                have hM12 := hbb rfl
                have hzw := HG5.out.size
                obtain ⟨i0, hi, hz0, hz1, hz2⟩ := info_parts nodeI_info
                obtain ⟨r, rfl, hr1, hr2, hrb⟩ : ∃ r, A2 = some ⟨r, 0, none⟩ ∧ w.heap.size + 1 ≤ r ∧ r < w'.heap.size ∧ r ≠ b3 := by
                  obtain ⟨Aq, cq, e1, _, q0, q1⟩ := own_slice HD5.out.nodes
                  injection e1 with e1 _ e2
                  subst e1 e2
                  cases A2 with
                  | none => exact absurd (q0 rfl) (by omega)
                  | some ad =>
                    obtain ⟨r, rfl, q2, q4, q3⟩ := q1 _ rfl
                    exact ⟨r, rfl, q2, q4, HD5.out.an r q3⟩
                
                have HAP := hide (own_apart2 HD5.out.leads HD5.out.nodes (by decide))
                have HBX := hide (show ∀ o, Bx [(b3, [.slice (some ⟨r, 0, none⟩) M.length c2, .slice B E.length c']), (w.heap.size, [.slice none 0 0, .slice none 0 0])] (w'.alloc o) from fun o => (HT.out.ext ((Ext.refl _).alloc o)).1)
                have hrw : r ≠ w.heap.size := by omega
                have hbw : b3 ≠ w.heap.size := by omega
                have hb3w : b3 < w'.heap.size := kz0
                have HAR := hide (show Ap (some r) [(b3, [.slice (some ⟨r, 0, none⟩) M.length c2, .slice B E.length c']), (w.heap.size, [.slice none 0 0, .slice none 0 0])] from by simp [Ap]; omega)
                go_wp2_with (at_builtin; refine wpList_append_own_at _ rfl (.tmp 48) (.tmp 53) 24 rfl (w.heap.size + 1) 84 i0 (.agg #[.int .i64 0, .int .i64 0]) 2 16 Tryz.underlying24 hi hz0 hz1 hz2 rfl (by decide) (.slice (some ⟨r, 0, none⟩) M.length c2) M.length (enc2 M) rfl (own_ext HD5.out.nodes ((Ext.refl _).alloc _)) ⟨w'.heap.size, 0, none⟩ 1 1 [.int .i64 20, .int .i64 (M.length : Int)] rfl rfl (news_new w' #[.int .i64 20, .int .i64 (M.length : Int)] 84) (one2n _ _) (by unfold maxLen; omega) (by omega) (by first | (simp; done) | (simp; omega)) ?_; intro v9 w9 hown9 hgrow9 hnil9 hloc9; obtain ⟨A9, c9, hv, _, _, _⟩ := own_slice hown9; subst hv; clear kz0 kf0 kc0_0 kc0_1 kz1 kf1 kc1_0 kc1_1 kE; have kB := Bx.grownA (row := some r) hgrow9 HAR.out (HBX.out _); have HB9 := hide kB; simp only [Bx, CellsAt, Nat.reduceAdd, Nat.zero_add, and_true] at kB; obtain ⟨⟨kz0, kf0, kc0_0, kc0_1⟩, ⟨kz1, kf1, kc1_0, kc1_1⟩⟩ := kB)
                have hz9 := hgrow9.size
                have HN9 := hide (show w9.ownsRow (w.heap.size + 1) 84 2 (.slice A9 (M.length + 1) c9) (M.length + 1) (enc2 (M ++ [(20, (M.length : Int))])) from by rw [enc2_snoc']; exact hown9)
                have HL9 := hide ((own_ext HD5.out.leads ((Ext.refl w').alloc _)).kept hgrow9 (by
                  cases hu : (Value.slice B E.length c').ownBlock with
                  | none => exact .inl rfl
                  | some q => exact .inr fun e => HAP.out q hu (by rw [← e])))
                have HLB := hide (show ∀ k, (Value.slice A9 (M.length + 1) c9).ownBlock = some k → k ≠ b3 from fun k e => by
                  rcases hloc9 with q | q
                  · have e2 : some r = some k := q.symm.trans e
                    injection e2; omega
                  · have e2 := q.symm.trans e
                    injection e2 with e2
                    simp only [World.size_alloc] at e2
                    omega)
                have HG9 := hide (HG5.out.app (r := r) hgrow9 (by omega) (by omega))
                have HD9 := hide (fun v => (show WD (w9.setCell ⟨b3, 0, none⟩ v) (w.heap.size + 1) b3 (M ++ [(20, (M.length : Int))]) E A9 B c9 c' from ⟨own_setn (by simpa using HN9.out) (by simpa using HLB.out) v, own_setn HL9.out HD5.out.al v, by simpa using HLB.out, HD5.out.al⟩))
                have HT9 := hide (fun v => (show Tr [(b3, [v, .slice B E.length c']), (w.heap.size, [.slice none 0 0, .slice none 0 0])] (w9.setCell ⟨b3, 0, none⟩ v) (w9.setCell ⟨b3, 0, none⟩ v) from by
                  obtain ⟨⟨q1, q2, q3, q4, _⟩, q5⟩ := HB9.out
                  refine ⟨⟨⟨by simpa using q1, fun i => by simp [World.frozen?_setCell, q2], by simp [go_sem, q3], by simpa [go_sem] using q4, trivial⟩, Bx.grownA (row := some b3) (grown_set (World.grownBy.refl w9 (some b3)) 0 _) (by simp [Ap]; omega) q5⟩, Ext.refl _⟩))
                have HGA := hide (fun v => (show Gx g l w (w9.setCell ⟨b3, 0, none⟩ v) from ⟨grown_new HG9.out.gr (by omega) _ _, HG9.out.cur.setk hgb _ _⟩))
                have hml : (M ++ [((20 : Int), (M.length : Int))]).length = M.length + 1 := by simp
                clear hown9 hgrow9 hnil9 hloc9
                go_roundw
                case rel => exact ⟨M ++ [(20, (M.length : Int))], A9, c9, hide ⟨by omega, by omega⟩, hide (HD9.out _), hide (by rw [hml]; exact HT9.out _), hide (HGA.out _)⟩
                case measure =>
                  have q1 := HLR.out
                  have q2 := lenC_eq (HT9.out (.slice A9 (M.length + 1) c9)).1.1.2.2.1
                  rw [q1, q2]
                  omega
        · have x3' : (x == 3) = false := by rw [beq_eq_false_iff_ne]; exact x3
          have HB9 := hide (HD4.out.wb (by omega) (by omega))
          have HG9 := hide HG4.out
          go_wp2_with fail
          refine bodyPost_ret (v := .agg #[.slice A N.length c, .slice B E.length c']) (by simp only [results, Tryz.results81]; go_simp) rfl ⟨N, E, A, B, c, c', rfl, by omega, by omega, ((HB9.out.low (k := w.heap.size) (by omega) 0 _).low (k := w.heap.size) (by omega) 1 _).mono (by omega), ⟨grown_new (grown_new HG9.out.gr (Nat.le_refl _) _ _) (Nat.le_refl _) _ _, (HG9.out.cur.setk hgl _ _).setk hgl _ _⟩⟩
set_option maxRecDepth 20000 in
set_option maxHeartbeats 2000000 in
theorem l07Any_any (g : Nat) (l : List Int) (w : World) (hl : l.length ≤ 1048576) (hc : Cur w g l) :
    Calls Tryz.prog 43 #[.pointer (some ⟨g, 0, none⟩)] w fun e w' => ∃ N E A B c c', e = .returned (.agg #[.slice A N.length c, .slice B E.length c']) ∧ N.length ≤ 14 ∧ E.length ≤ 22 ∧ WB w' w.heap.size N E A B c c' ∧ Gx g l w w' := by
  have HC := hide hc
  have hgl := hc.lt
  clear hc
  
  go_enter Tryz.func43, Tryz.ntmps43
  go_wp2_with fail
  obtain ⟨w0, hw⟩ : ∃ w1, w1 = w.alloc (Obj.cells #[Value.slice none 0 0, Value.slice none 0 0] 27) := ⟨_, rfl⟩; rw [← hw]; have kT : Tr [(w.heap.size, [.slice none 0 0, .slice none 0 0])] w w0 := (by rw [hw]; exact ⟨by (first | (simp [Bx, CellsAt, go_sem, *]; done) | (simp [Bx, CellsAt, go_sem, *]; omega)), by (repeat (first | exact kE | exact Ext.refl _ | apply Ext.alloc | apply Ext.drewN | apply Ext.drew | apply Ext.set0 | apply Ext.set1 | apply Ext.set2 | apply Ext.set3 | (refine Ext.setk ?_ (by omega) _) | (apply Ext.snoc; assumption)))⟩); have HT := hide kT; clear hw kT; have kT := HT.out; simp only [Tr, Bx, CellsAt, Nat.reduceAdd, Nat.zero_add, and_true] at kT; obtain ⟨⟨kz0, kf0, kc0_0, kc0_1⟩, kE⟩ := kT
  have HG0 := hide (Gx.ext HC.out kE)
  have hs0 := kz0
  have hng : ¬ w.heap.size = g := by omega
  refine (l01Once_any g 6 l _ hl (by omega) (by omega) HG0.out.cur).mono ?_; rintro e w5 ⟨bb, rfl, hc1, hg1⟩
  have HG1 := hide (Gx.mk hg1 hc1)
  have HG5 := hide (HG0.out.trans HG1.out)
  have HT' := hide (HG1.out.tr (by simp [Ap]; omega) HT.out)
  have hz5 := hg1.size
  clear hc1 hg1 HG1 HG0
  clear kz0 kf0 kc0_0 kc0_1 kE
  clear HT; have HT := HT'; clear HT'
  have kT := HT.out; simp only [Tr, Bx, CellsAt, Nat.reduceAdd, Nat.zero_add, and_true] at kT; obtain ⟨⟨kz0, kf0, kc0_0, kc0_1⟩, kE⟩ := kT
  cases bb with
  | true =>
    go_wp2_with fail
    refine (l04Any_any g l _ hl HG5.out.cur).mono ?_
    rintro e w2 ⟨N, E, A, B, c, c', rfl, hN, hE, hwb, hgx⟩
    have HN2 := hide hwb
    have HG2 := hide (HG5.out.trans hgx)
    have hz2 := hgx.size
    have HT' := hide (hgx.tr (by simp [Ap]; omega) HT.out)
    clear hwb hgx HG5
    clear kz0 kf0 kc0_0 kc0_1 kE
    clear HT; have HT := HT'; clear HT'
    have kT := HT.out; simp only [Tr, Bx, CellsAt, Nat.reduceAdd, Nat.zero_add, and_true] at kT; obtain ⟨⟨kz0, kf0, kc0_0, kc0_1⟩, kE⟩ := kT
    go_wp2_with fail
    refine bodyPost_ret (v := .agg #[.slice A N.length c, .slice B E.length c']) (by simp only [results, Tryz.results43]; go_simp) rfl ⟨N, E, A, B, c, c', rfl, by omega, by omega, ((HN2.out.low (k := w.heap.size) (by omega) 0 _).low (k := w.heap.size) (by omega) 1 _).mono (by omega), ⟨grown_new (grown_new HG2.out.gr (Nat.le_refl _) _ _) (Nat.le_refl _) _ _, (HG2.out.cur.setk hgl _ _).setk hgl _ _⟩⟩
  | false =>
    
    go_wp2_with fail
    refine (l07Whole_any g l _ hl HG5.out.cur).mono ?_
    rintro e w2 ⟨N, E, A, B, c, c', rfl, ⟨_, hN5, hN13, hE8⟩, hwn, hgx⟩
    have HN2 := hide (hwn.wb (by omega) (by omega))
    have HG2 := hide (HG5.out.trans hgx)
    have hz2 := hgx.size
    have HT' := hide (hgx.tr (by simp [Ap]; omega) HT.out)
    clear hwn hgx HG5
    clear kz0 kf0 kc0_0 kc0_1 kE
    clear HT; have HT := HT'; clear HT'
    have kT := HT.out; simp only [Tr, Bx, CellsAt, Nat.reduceAdd, Nat.zero_add, and_true] at kT; obtain ⟨⟨kz0, kf0, kc0_0, kc0_1⟩, kE⟩ := kT
    go_wp2_with fail
    refine bodyPost_ret (v := .agg #[.slice A N.length c, .slice B E.length c']) (by simp only [results, Tryz.results43]; go_simp) rfl ⟨N, E, A, B, c, c', rfl, by omega, by omega, ((HN2.out.low (k := w.heap.size) (by omega) 0 _).low (k := w.heap.size) (by omega) 1 _).mono (by omega), ⟨grown_new (grown_new HG2.out.gr (Nat.le_refl _) _ _) (Nat.le_refl _) _ _, (HG2.out.cur.setk hgl _ _).setk hgl _ _⟩⟩
end Go.Proofs.YtabgcpoaepafjaaGreat
