/- Words and walks for the law FnMatches, a part of them. No condition but that the arguments lie in memory. -/
import Derived.Test.YtabgcpoaepafjaaGreatU3
import Derived.Test.YtabgcpoaepafjaaGreatU27
set_option linter.unusedVariables false
set_option linter.unusedSimpArgs false
namespace Go.Proofs.YtabgcpoaepafjaaGreat
open Go.RowKit
theorem Cur.low {w : World} {g : Nat} {l : List Int} (h : Cur w g l) {k : Nat} {T : TypeId} {cs : List Value} (hkg : k ≠ g) (hb : Blk w k T cs) (hcs : ∀ v ∈ cs, ∀ x, v ≠ .int .u8 x) (o : Nat) (v : Value) : Cur (w.setCell ⟨k, o, none⟩ v) g l := by
  obtain ⟨A, c, i, h', h1, h2, h3, h4⟩ := h
  refine ⟨A, c, i, h', h1, h2.other (by omega) _, ⟨?_, h3.2⟩, h4⟩
  rcases Nat.eq_zero_or_pos l.length with e | e
  · exact ⟨h3.1.1, fun h => absurd h (by omega)⟩
  · refine h3.1.keep (by simp) (fun b off e1 _ _ => Below.heap_setCell _ _ _ _ ?_)
    show b ≠ k
    rintro rfl
    obtain ⟨b', off', e2, _, hc, _⟩ := h3.at_ (k := 0) e
    rw [e1] at e2
    cases e2
    rw [hb.cell] at hc
    exact hcs _ (List.mem_of_getElem? hc) _ rfl
theorem two_slices {a b : Value} (ha : ∀ x, a ≠ .int .u8 x) (hb : ∀ x, b ≠ .int .u8 x) : ∀ v ∈ [a, b], ∀ x, v ≠ .int .u8 x := by
  intro v hv
  rcases List.mem_cons.1 hv with rfl | hv
  · exact ha
  · rcases List.mem_cons.1 hv with rfl | hv
    · exact hb
    · cases hv
theorem SNN.low {w : World} {base k : Nat} {v : Value} {L : List (List P2)} {hs : List Value} (h : SNN w base v k L hs) {q : Nat} (hq : q < base) (o : Nat) (u : Value) : SNN (w.setCell ⟨q, o, none⟩ u) base v k L hs := by
  have hn : ∀ {v : Value} {T sz n : Nat} {xs : List Value}, w.ownsRow base T sz v n xs → (w.setCell ⟨q, o, none⟩ u).ownsRow base T sz v n xs := fun hv => own_setk hv (k := q) hq u
  exact ⟨hn h.1, h.2.1, fun i hi => by obtain ⟨B, c, e, h3⟩ := h.2.2 i hi; exact ⟨B, c, e, hn h3⟩⟩
set_option maxRecDepth 20000 in
set_option maxHeartbeats 8000000 in
theorem DrawMatchPanes_any (l : List Int) (A0 : Option Addr) (c0 : Nat) (w : World) (hl : l.length ≤ 1048576) (hr : RB w A0 l) :
    Calls Tryz.prog 8 #[.slice A0 l.length c0] w fun e w' => ∃ N E A B c c' L A3 c3, e = .returned (.tuple #[.agg #[.slice A N.length c, .slice B E.length c'], .slice A3 L.length c3]) ∧ N.length ≤ 14 ∧ E.length ≤ 22 ∧ L.length ≤ 9 ∧ (∀ S ∈ L, S.length ≤ 40) ∧ WR w' N E A B c c' ∧ RSS w' A3 L ∧ Ext w w' := by
  have HR := hide hr
  clear hr
  
  go_enter Tryz.func8, Tryz.ntmps8
  go_wp2_with fail
  obtain ⟨w0, hw⟩ : ∃ w1, w1 = w.alloc (Obj.cells #[Value.slice none 0 0, Value.slice none 0 0] 27) := ⟨_, rfl⟩; rw [← hw]; have kT : Tr [(w.heap.size, [.slice none 0 0, .slice none 0 0])] w w0 := (by rw [hw]; exact ⟨by (first | (simp [Bx, CellsAt, go_sem, *]; done) | (simp [Bx, CellsAt, go_sem, *]; omega)), by (repeat (first | exact kE | exact Ext.refl _ | apply Ext.alloc | apply Ext.drewN | apply Ext.drew | apply Ext.set0 | apply Ext.set1 | apply Ext.set2 | apply Ext.set3 | (refine Ext.setk ?_ (by omega) _) | (apply Ext.snoc; assumption)))⟩); have HT := hide kT; clear kT; have kT := HT.out; simp only [Tr, Bx, CellsAt, Nat.reduceAdd, Nat.zero_add, and_true] at kT; obtain ⟨⟨kz0, kf0, kc0_0, kc0_1⟩, kE⟩ := kT
  have HK0 := hide (show Blk w0 w.heap.size 27 [Value.slice none 0 0, Value.slice none 0 0] by rw [hw]; exact Blk.new w _ _)
  clear hw
  have hs0 := kz0
  refine (l01New_any l A0 c0 _ hl (HR.out.ext kE)).mono ?_; rintro e wC ⟨g, rfl, hgz, hcur, hb⟩; have HT := hide (HT.out.ext hb); have HwC := hide hb; clear hb; clear kz0 kf0 kc0_0 kc0_1 kE; have kT := HT.out; simp only [Tr, Bx, CellsAt, Nat.reduceAdd, Nat.zero_add, and_true] at kT; obtain ⟨⟨kz0, kf0, kc0_0, kc0_1⟩, kE⟩ := kT
  have HC1 := hide hcur
  clear hcur
  have hs1 := kz0
  have HX1 := hide kE
  have HK1 := hide (HK0.out.ext HwC.out)
  go_wp2_with fail
  refine (l07Any_any g l _ hl HC1.out).mono ?_
  rintro e w2 ⟨N, E, A, B, c, c', rfl, hN, hE, hwb, hgx⟩
  have hgC := HC1.out.lt
  have hng : ¬ w.heap.size = g := by omega
  have HB2 := hide hwb
  have HG2 := hide hgx
  have HT' := hide (hgx.tr (by simp [Ap]; omega) HT.out)
  have hs2 := hgx.size
  have HK2 := hide (HK1.out.grown hgx.gr (by intro e; injection e with e; omega))
  clear hwb hgx
  clear kz0 kf0 kc0_0 kc0_1 kE
  clear HT; have HT := HT'; clear HT'
  have kT := HT.out; simp only [Tr, Bx, CellsAt, Nat.reduceAdd, Nat.zero_add, and_true] at kT; obtain ⟨⟨kz0, kf0, kc0_0, kc0_1⟩, kE⟩ := kT
  go_upto_region 3 with fail
  obtain ⟨w3, hw⟩ : ∃ w1, w1 = w2.alloc (Obj.cells #[Value.slice A N.length c, Value.slice B E.length c'] 27) := ⟨_, rfl⟩; rw [← hw]; have Hw3 := hide (show Ext w2 w3 from (by (rw [hw]; (try clear kE); repeat (first | exact kE | exact Ext.refl _ | apply Ext.alloc | apply Ext.drewN | apply Ext.drew | apply Ext.set0 | apply Ext.set1 | apply Ext.set2 | apply Ext.set3 | (refine Ext.setk ?_ (by omega) _) | (apply Ext.snoc; assumption))))); have HT := hide (HT.out.more Hw3.out (w2.heap.size) [.slice A N.length c, .slice B E.length c'] (by (rw [hw]; first | (simp [CellsAt, go_sem, *]; done) | (simp [CellsAt, go_sem, *]; omega)))); have Zw3 := hide (congrArg (fun z : World => z.heap.size) hw); clear hw kz0 kf0 kc0_0 kc0_1 kE; have kT := HT.out; simp only [Tr, Bx, CellsAt, Nat.reduceAdd, Nat.zero_add, and_true] at kT; obtain ⟨⟨⟨kz0, kf0, kc0_0, kc0_1⟩, ⟨kz1, kf1, kc1_0, kc1_1⟩⟩, kE⟩ := kT
  have HB3 := hide (HB2.out.ext Hw3.out)
  have HG3 := hide (HG2.out.trans (Gx.ext HG2.out.cur Hw3.out))
  have hgb : g < wC.heap.size := hgC
  have hK3 := HK2.out.ext Hw3.out
  have hGd : Gx g l w3 w3.drew := Gx.drew HG3.out.cur
  have hcd := hGd.cur
  have hBd := HB3.out.gx hGd hgb
  have HLA := hide (show Calls Tryz.prog 44 #[.pointer (some ⟨g, 0, none⟩), .agg #[.slice A N.length c, .slice B E.length c']] w3.drew fun e w' => ∃ (L : List (List P2)) (A2 : Option Addr) (c2 : Nat) (hs : List Value), e = .returned (.slice A2 L.length c2) ∧ L.length ≤ 9 ∧ (∀ S ∈ L, S.length ≤ 40) ∧ SNN w' (w3.heap.size + 1) (.slice A2 L.length c2) L.length L hs ∧ Gx g l w3 w' from (l19Shapes_any g l N E A B c c' wC.heap.size w3.drew hl hcd hgb hBd).mono (by rintro e w' ⟨L, A2, c2, hs, h1, h2, h3, h4, h5⟩; exact ⟨L, A2, c2, hs, h1, h2, h3, h4, hGd.trans h5⟩))
  obtain ⟨w4, hw4⟩ : ∃ W, W = (w3.drew.setCell ⟨w.heap.size, 0, none⟩ (.slice A N.length c)).setCell ⟨w.heap.size, 1, none⟩ (.slice B E.length c') := ⟨_, rfl⟩
  have hc4 : Cur w4 g l := by
    rw [hw4]
    exact (hcd.low hng (T := 27) (cs := [Value.slice none 0 0, Value.slice none 0 0]) hK3 (two_slices (fun _ h => by cases h) (fun _ h => by cases h)) _ _).low hng (T := 27) (cs := [Value.slice A N.length c, Value.slice none 0 0]) (Blk.set (w := w3.drew) hK3 0 _) (two_slices (fun _ h => by cases h) (fun _ h => by cases h)) _ _
  have hB4 : WB w4 wC.heap.size N E A B c c' := by rw [hw4]; exact (hBd.low (k := w.heap.size) (by omega) 0 _).low (k := w.heap.size) (by omega) 1 _
  have HLB := hide (show Calls Tryz.prog 44 #[.pointer (some ⟨g, 0, none⟩), .agg #[.slice A N.length c, .slice B E.length c']] ((w3.drew.setCell ⟨w.heap.size, 0, none⟩ (.slice A N.length c)).setCell ⟨w.heap.size, 1, none⟩ (.slice B E.length c')) fun e w' => ∃ (L : List (List P2)) (A2 : Option Addr) (c2 : Nat) (hs : List Value), e = .returned (.slice A2 L.length c2) ∧ L.length ≤ 9 ∧ (∀ S ∈ L, S.length ≤ 40) ∧ SNN w' (w4.heap.size + 1) (.slice A2 L.length c2) L.length L hs ∧ Gx g l w4 w' from by rw [← hw4]; exact l19Shapes_any g l N E A B c c' wC.heap.size w4 hl hc4 hgb hB4)
  have hK4 : Blk w4 w.heap.size 27 [Value.slice A N.length c, Value.slice B E.length c'] := by
    rw [hw4]
    exact (Blk.set (w := w3.drew) (cs := [Value.slice none 0 0, Value.slice none 0 0]) hK3 0 (.slice A N.length c)).set 1 (.slice B E.length c')
  have hE2 : Ext w w2 := HX1.out.grown HG2.out.gr (fun k e => by injection e with e; omega)
  have hE3 : Ext w w3 := hE2.trans Hw3.out
  have hE4 : Ext w w4 := by rw [hw4]; exact (hE3.drew.setk (Nat.le_refl _) _).setk (Nat.le_refl _) _
  have HKA := hide (show ∀ wq : World, Gx g l w3 wq → WR ((wq.setCell ⟨w.heap.size, 0, none⟩ (.slice A N.length c)).setCell ⟨w.heap.size, 1, none⟩ (.slice B E.length c')) N E A B c c' ∧ Ext w ((wq.setCell ⟨w.heap.size, 0, none⟩ (.slice A N.length c)).setCell ⟨w.heap.size, 1, none⟩ (.slice B E.length c')) from fun wq hq => ⟨(((HB3.out.gx hq hgb).low (k := w.heap.size) (by omega) 0 _).low (k := w.heap.size) (by omega) 1 _).wr, ((hE3.grown hq.gr (fun k e => by injection e with e; omega)).setk (Nat.le_refl _) _).setk (Nat.le_refl _) _⟩)
  have HKB := hide (show ∀ wq : World, Gx g l w4 wq → (wq.cell? ⟨w.heap.size, 0, none⟩ = some (.slice A N.length c) ∧ wq.cell? ⟨w.heap.size, 1, none⟩ = some (.slice B E.length c')) ∧ WR wq N E A B c c' ∧ Ext w wq from fun wq hq => ⟨by have h := hK4.grown hq.gr (by intro e; injection e with e; omega); exact ⟨h.cell 0, h.cell 1⟩, (hB4.gx hq hgb).wr, hE4.grown hq.gr (fun k e => by injection e with e; omega)⟩)
  have HW4 := hide hw4
  have hs3 := Hw3.out.size
  clear hw4 hc4 hB4 hK3 hGd hcd hBd hK4 hE2 hE3 hE4
  go_region_with ((go_at_call 44; first | (refine (HLB.out).mono ?_; rintro e wq ⟨L, A3, c3, hs, rfl, hL9, hL40, hsnn, hgq⟩; have HR2 := hide (And.intro hL9 (And.intro hL40 (And.intro hsnn hgq))); clear hL9 hL40 hsnn hgq) | (refine (HLA.out).mono ?_; rintro e wq ⟨L, A3, c3, hs, rfl, hL9, hL40, hsnn, hgq⟩; have HQ := hide (And.intro hL9 (And.intro hL40 (And.intro hsnn hgq))); have HTq := hide (hgq.tr (by simp [Ap]; omega) HT.out); clear hL9 hL40 hsnn hgq; clear kz0 kf0 kc0_0 kc0_1 kz1 kf1 kc1_0 kc1_1 kE; have kT := HTq.out; simp only [Tr, Bx, CellsAt, Nat.reduceAdd, Nat.zero_add, and_true] at kT; obtain ⟨⟨⟨kz0, kf0, kc0_0, kc0_1⟩, ⟨kz1, kf1, kc1_0, kc1_1⟩⟩, kE⟩ := kT)))
  all_goals
    first
      | (obtain ⟨q1, q2, q3, q4⟩ := HR2.out
         have hk := HKB.out _ q4
         obtain ⟨⟨kd0, kd1⟩, hk1, hk2⟩ := hk
         have HSN := hide q3.rss
         clear q3 q4
         go_wp2_with fail
         refine bodyPost_ret (v := .tuple #[.agg #[.slice A N.length c, .slice B E.length c'], .slice A3 L.length c3]) (by simp only [results, Tryz.results8]; go_simp) rfl ⟨N, E, A, B, c, c', L, A3, c3, rfl, by omega, by omega, q1, q2, hk1, HSN.out, hk2⟩)
      | (obtain ⟨q1, q2, q3, q4⟩ := HQ.out
         have hk := HKA.out _ q4
         have HSN := hide ((q3.low (q := w.heap.size) (by omega) 0 (.slice A N.length c)).low (q := w.heap.size) (by omega) 1 (.slice B E.length c')).rss
         clear q3 q4
         go_wp2_with fail
         refine bodyPost_ret (v := .tuple #[.agg #[.slice A N.length c, .slice B E.length c'], .slice A3 L.length c3]) (by simp only [results, Tryz.results8]; go_simp) rfl ⟨N, E, A, B, c, c', L, A3, c3, rfl, by omega, by omega, q1, q2, hk.1, HSN.out, hk.2⟩)
end Go.Proofs.YtabgcpoaepafjaaGreat
namespace Go.Proofs.YtabgcpoaepafjaaGreat
/-! finite lists -/
theorem nodup_le {α : Type} [DecidableEq α] : ∀ (l m : List α), l.Nodup → (∀ x, x ∈ l → x ∈ m) → l.length ≤ m.length
  | [], _, _, _ => Nat.zero_le _
  | a :: l, m, h, hs => by
    have h1 : a ∈ m := hs a (by simp)
    have h2 := List.length_erase_of_mem h1
    have h3 : 0 < m.length := List.length_pos_of_mem h1
    have h4 := nodup_le l (m.erase a) (List.nodup_cons.1 h).2 fun x hx => by
      have hne : x ≠ a := fun e => (List.nodup_cons.1 h).1 (e ▸ hx)
      exact (List.mem_erase_of_ne hne).2 (hs x (by simp [hx]))
    simp only [List.length_cons]
    omega
/-- A map of lists that keeps numbers apart does not make them fewer. -/
theorem nodup_map {α β : Type} [DecidableEq β] {f : α → β} : ∀ {l : List α}, l.Nodup → (∀ x y, x ∈ l → y ∈ l → f x = f y → x = y) → (l.map f).Nodup
  | [], _, _ => by simp
  | a :: l, h, hi => by
    rw [List.map_cons, List.nodup_cons]
    refine ⟨fun hm => ?_, nodup_map (List.nodup_cons.1 h).2 fun x y hx hy => hi x y (by simp [hx]) (by simp [hy])⟩
    obtain ⟨x, hx, e⟩ := List.mem_map.1 hm
    have := hi x a (by simp [hx]) (by simp) e
    exact (List.nodup_cons.1 h).1 (this ▸ hx)
/-- What the search of one shape does: P: the places of each shape, U: what may not be used; H: which shape has a place, a: which places were asked for. -/
def put (H : Nat → Option Nat) (f i : Nat) : Nat → Option Nat := fun x => if x = f then some i else H x
inductive Give (P : Nat → List Nat) (U : Nat) : Nat → List Nat → (Nat → Option Nat) → Nat → Bool → (Nat → Option Nat) → Nat → Prop
  | nil {i H a} : Give P U i [] H a false H a
  | skip {i f l H a ok H' a'} : (a ||| U).testBit f = true → Give P U i l H a ok H' a' → Give P U i (f :: l) H a ok H' a'
  | free {i f l H a} : (a ||| U).testBit f = false → H f = none → Give P U i (f :: l) H a true (put H f i) (a ||| 2 ^ f)
  | take {i f l H a o H' a'} : (a ||| U).testBit f = false → H f = some o → Give P U o (P o) H (a ||| 2 ^ f) true H' a' → Give P U i (f :: l) H a true (put H' f i) a'
  | go {i f l H a o H' a' ok H'' a''} : (a ||| U).testBit f = false → H f = some o → Give P U o (P o) H (a ||| 2 ^ f) false H' a' → Give P U i l H' a' ok H'' a'' → Give P U i (f :: l) H a ok H'' a''
theorem bit_or {a u f : Nat} (h : (a ||| u).testBit f = false) : a.testBit f = false ∧ u.testBit f = false := by
  rw [Nat.testBit_or, Bool.or_eq_false_iff] at h
  exact h
/-- A search that fails: nothing has turned but what was asked for. -/
theorem give_fail {P : Nat → List Nat} {U i : Nat} {l : List Nat} {H : Nat → Option Nat} {a : Nat} {ok : Bool} {H' : Nat → Option Nat} {a' : Nat} (h : Give P U i l H a ok H' a') : ok = false →
    H' = H ∧ (∀ f, a.testBit f = true → a'.testBit f = true) ∧ (∀ f, f ∈ l → (a' ||| U).testBit f = true) ∧
    ∀ f, a'.testBit f = true → a.testBit f = false → U.testBit f = false ∧ ∃ o, H f = some o ∧ ∀ g, g ∈ P o → (a' ||| U).testBit g = true := by
  have mono : ∀ {x y : Nat}, (∀ f, x.testBit f = true → y.testBit f = true) → ∀ f, (x ||| U).testBit f = true → (y ||| U).testBit f = true := fun {x y} h f hf => by
    rw [Nat.testBit_or, Bool.or_eq_true] at hf ⊢
    exact hf.imp (h f) id
  induction h with
  | nil => intro _; exact ⟨rfl, fun _ h => h, by simp, fun f h1 h2 => by rw [h1] at h2; cases h2⟩
  | @skip i f l H a ok H' a' hf _ ih =>
    intro e
    obtain ⟨h1, h2, h3, h4⟩ := ih e
    refine ⟨h1, h2, fun g hg => ?_, h4⟩
    rcases List.mem_cons.1 hg with rfl | hg
    · exact mono h2 _ hf
    · exact h3 g hg
  | free _ _ => intro e; cases e
  | take _ _ _ _ => intro e; cases e
  | @go i f l H a o H' a' ok H'' a'' hf hH _ _ ih1 ih2 =>
    intro e
    obtain ⟨h1, h2, h3, h4⟩ := ih1 rfl
    obtain ⟨g1, g2, g3, g4⟩ := ih2 e
    have haf := h2 f (or_bit.2 (.inr rfl))
    subst h1
    refine ⟨g1, fun x hx => g2 x (h2 x (or_bit.2 (.inl hx))), fun g hg => ?_, fun x hx hax => ?_⟩
    · rcases List.mem_cons.1 hg with rfl | hg
      · rw [Nat.testBit_or, g2 _ haf]; rfl
      · exact g3 g hg
    · by_cases hxa' : a'.testBit x = true
      · by_cases hxf : x = f
        · subst hxf
          exact ⟨(bit_or hf).2, o, hH, fun g hg => mono g2 g (h3 g hg)⟩
        · have : (a ||| 2 ^ f).testBit x = false := by
            rw [Nat.testBit_or, hax, Nat.testBit_two_pow_of_ne (fun q => hxf q.symm)]; rfl
          obtain ⟨q1, o', q2, q3⟩ := h4 x hxa' this
          exact ⟨q1, o', q2, fun g hg => mono g2 g (q3 g hg)⟩
      · exact g4 x hx (by simpa using hxa')
/-- Which places a shape may have: its own ones that are not used. -/
structure Valid (P : Nat → List Nat) (U : Nat) (V : Nat → Option Nat) : Prop where
  ok : ∀ f l, V f = some l → f ∈ P l ∧ U.testBit f = false
  inj : ∀ f g l, V f = some l → V g = some l → f = g
def Has (V : Nat → Option Nat) (l : Nat) : Prop := ∃ f, V f = some l
theorem put_same (H : Nat → Option Nat) (f i : Nat) : put H f i f = some i := if_pos rfl
theorem put_ne {H : Nat → Option Nat} {f i x : Nat} (h : x ≠ f) : put H f i x = H x := if_neg h
/-- Laying a place for a shape that has none; the shape that had it loses it. -/
theorem put_valid {P : Nat → List Nat} {U : Nat} {V : Nat → Option Nat} {f i : Nat} (h : Valid P U V) (hi : ¬ Has V i) (hf : f ∈ P i) (hu : U.testBit f = false) : Valid P U (put V f i) := by
  constructor
  · intro x l hx
    by_cases e : x = f
    · rw [e, put_same] at hx
      cases hx
      rw [e]
      exact ⟨hf, hu⟩
    · rw [put_ne e] at hx
      exact h.ok x l hx
  · intro x y l hx hy
    by_cases e1 : x = f <;> by_cases e2 : y = f
    · rw [e1, e2]
    · rw [e1, put_same] at hx
      cases hx
      rw [put_ne e2] at hy
      exact absurd ⟨y, hy⟩ hi
    · rw [e2, put_same] at hy
      cases hy
      rw [put_ne e1] at hx
      exact absurd ⟨x, hx⟩ hi
    · rw [put_ne e1] at hx
      rw [put_ne e2] at hy
      exact h.inj x y l hx hy
/-- What was asked for stays asked for, and keeps its shape. -/
theorem give_keep {P : Nat → List Nat} {U i : Nat} {l : List Nat} {H : Nat → Option Nat} {a : Nat} {ok : Bool} {H' : Nat → Option Nat} {a' : Nat} (h : Give P U i l H a ok H' a') :
    ∀ x, a.testBit x = true → H' x = H x ∧ a'.testBit x = true := by
  induction h with
  | nil => intro x hx; exact ⟨rfl, hx⟩
  | skip _ _ ih => exact ih
  | @free i f l H a hf hH =>
    intro x hx
    exact ⟨put_ne (fun e => by rw [e, (bit_or hf).1] at hx; cases hx), or_bit.2 (.inl hx)⟩
  | @take i f l H a o H' a' hf hH _ ih =>
    intro x hx
    obtain ⟨h1, h2⟩ := ih x (or_bit.2 (.inl hx))
    exact ⟨by rw [put_ne (fun e => by rw [e, (bit_or hf).1] at hx; cases hx), h1], h2⟩
  | @go i f l H a o H' a' ok H'' a'' hf hH _ _ ih1 ih2 =>
    intro x hx
    obtain ⟨h1, h2⟩ := ih1 x (or_bit.2 (.inl hx))
    obtain ⟨h3, h4⟩ := ih2 x h2
    exact ⟨h3.trans h1, h4⟩
/-- A search that succeeds: one shape more has a place. -/
theorem give_ok {P : Nat → List Nat} {U i : Nat} {l : List Nat} {H : Nat → Option Nat} {a : Nat} {ok : Bool} {H' : Nat → Option Nat} {a' : Nat} (h : Give P U i l H a ok H' a') : ok = true →
    ∀ V : Nat → Option Nat, (∀ x, a.testBit x = false → V x = H x) → Valid P U V → ¬ Has V i → (∀ f, f ∈ l → f ∈ P i) →
    ∃ V', (∀ x, a.testBit x = false → V' x = H' x) ∧ (∀ x, a.testBit x = true → V' x = V x) ∧ Valid P U V' ∧ ∀ q, Has V' q ↔ Has V q ∨ q = i := by
  induction h with
  | nil => intro e; cases e
  | @skip i f l H a ok H' a' hf _ ih =>
    intro e V h1 h2 h3 h4
    exact ih e V h1 h2 h3 fun g hg => h4 g (by simp [hg])
  | @free i f l H a hf hH =>
    intro _ V h1 h2 h3 h4
    obtain ⟨haf, huf⟩ := bit_or hf
    have hVf : V f = none := by rw [h1 f haf, hH]
    refine ⟨put V f i, fun x hx => ?_, fun x hx => ?_, put_valid h2 h3 (h4 f (by simp)) huf, fun q => ?_⟩
    · by_cases e : x = f
      · rw [e, put_same, put_same]
      · rw [put_ne e, put_ne e, h1 x hx]
    · rw [put_ne (fun e => by rw [e, haf] at hx; cases hx)]
    · constructor
      · rintro ⟨x, hx⟩
        by_cases e : x = f
        · rw [e, put_same] at hx
          cases hx
          exact .inr rfl
        · rw [put_ne e] at hx
          exact .inl ⟨x, hx⟩
      · rintro (⟨x, hx⟩ | rfl)
        · refine ⟨x, ?_⟩
          rw [put_ne (fun e => by rw [e, hVf] at hx; cases hx)]
          exact hx
        · exact ⟨f, put_same _ _ _⟩
  | @take i f l H a o H' a' hf hH _ ih =>
    intro _ V h1 h2 h3 h4
    obtain ⟨haf, huf⟩ := bit_or hf
    have hVf : V f = some o := by rw [h1 f haf, hH]
    have hio : i ≠ o := fun e => h3 ⟨f, by rw [hVf, e]⟩
    have hv1 := put_valid h2 h3 (h4 f (by simp)) huf
    have hno : ¬ Has (put V f i) o := by
      rintro ⟨x, hx⟩
      by_cases e : x = f
      · rw [e, put_same] at hx
        cases hx
        exact hio rfl
      · rw [put_ne e] at hx
        exact e (h2.inj x f o hx hVf)
    obtain ⟨V', k1, k2, k3, k4⟩ := ih rfl (put V f i) (fun x hx => by
      have hx2 : ¬ (a ||| 2 ^ f).testBit x = true := by rw [hx]; simp
      rw [or_bit] at hx2
      rw [put_ne (fun e => hx2 (.inr e.symm))]
      exact h1 x (by have := fun q => hx2 (.inl q); simpa using this)) hv1 hno (fun _ h => h)
    have k2f : V' f = some i := by rw [k2 f (or_bit.2 (.inr rfl)), put_same]
    refine ⟨V', fun x hx => ?_, fun x hx => ?_, k3, fun q => ?_⟩
    · by_cases e : x = f
      · rw [e, put_same, k2f]
      · rw [put_ne e]
        refine k1 x ?_
        rw [Nat.testBit_or, hx, Nat.testBit_two_pow_of_ne (fun q => e q.symm)]
        rfl
    · rw [k2 x (or_bit.2 (.inl hx)), put_ne (fun e => by rw [e, haf] at hx; cases hx)]
    · rw [k4]
      constructor
      · rintro (⟨x, hx⟩ | rfl)
        · by_cases e : x = f
          · rw [e, put_same] at hx
            cases hx
            exact .inr rfl
          · rw [put_ne e] at hx
            exact .inl ⟨x, hx⟩
        · exact .inl ⟨f, hVf⟩
      · rintro (⟨x, hx⟩ | rfl)
        · by_cases e : x = f
          · rw [e, hVf] at hx
            cases hx
            exact .inr rfl
          · exact .inl ⟨x, by rw [put_ne e]; exact hx⟩
        · exact .inl ⟨f, put_same _ _ _⟩
  | @go i f l H a o H' a' ok H'' a'' hf hH hd hd2 ih1 ih2 =>
    intro e V h1 h2 h3 h4
    obtain ⟨g1, g2, _, _⟩ := give_fail hd rfl
    subst g1
    obtain ⟨V', k1, k2, k3, k4⟩ := ih2 e V (fun x hx => h1 x (by
      cases q : a.testBit x with
      | false => rfl
      | true => rw [g2 x (or_bit.2 (.inl q))] at hx; cases hx)) h2 h3 fun g hg => h4 g (by simp [hg])
    refine ⟨V', fun x hx => ?_, fun x hx => k2 x (g2 x (or_bit.2 (.inl hx))), k3, k4⟩
    by_cases hx2 : a'.testBit x = true
    · rw [k2 x hx2, h1 x hx, (give_keep hd2 x hx2).1]
    · exact k1 x (by simpa using hx2)
/-- A set of places whose shapes have no places but these. -/
def Shut (P : Nat → List Nat) (U : Nat) (H : Nat → Option Nat) (D : Nat → Prop) : Prop := ∀ f, D f → U.testBit f = false ∧ ∃ o, H f = some o ∧ ∀ g, g ∈ P o → D g ∨ U.testBit g = true
theorem give_shut {P : Nat → List Nat} {U i : Nat} {l : List Nat} {H : Nat → Option Nat} {a : Nat} {ok : Bool} {H' : Nat → Option Nat} {a' : Nat} (h : Give P U i l H a ok H' a') {D : Nat → Prop} : Shut P U H D →
    ((∀ g, g ∈ l → D g ∨ U.testBit g = true) → ok = false) ∧ ∀ f, D f → H' f = H f := by
  induction h with
  | nil => intro _; exact ⟨fun _ => rfl, fun _ _ => rfl⟩
  | skip _ _ ih => intro hD; exact ⟨fun hl => (ih hD).1 fun g hg => hl g (by simp [hg]), (ih hD).2⟩
  | @free i f l H a hf hH =>
    intro hD
    have hnf : ¬ D f := fun q => by
      obtain ⟨_, o, ho, _⟩ := hD f q
      rw [hH] at ho
      cases ho
    refine ⟨fun hl => ?_, fun x hx => put_ne (fun e => hnf (e ▸ hx))⟩
    rcases hl f (by simp) with q | q
    · exact absurd q hnf
    · rw [(bit_or hf).2] at q
      cases q
  | @take i f l H a o H' a' hf hH _ ih =>
    intro hD
    have hnf : ¬ D f := fun q => by
      obtain ⟨_, o', ho, hg⟩ := hD f q
      rw [hH] at ho
      cases ho
      have := (ih hD).1 hg
      cases this
    refine ⟨fun hl => ?_, fun x hx => by rw [put_ne (fun e => hnf (by rw [← e]; exact hx)), (ih hD).2 x hx]⟩
    rcases hl f (by simp) with q | q
    · exact absurd q hnf
    · rw [(bit_or hf).2] at q
      cases q
  | @go i f l H a o H' a' ok H'' a'' hf hH hd _ ih1 ih2 =>
    intro hD
    have h1 := (give_fail hd rfl).1
    subst h1
    exact ⟨fun hl => (ih2 hD).1 fun g hg => hl g (by simp [hg]), (ih2 hD).2⟩
/-- The state when the first j shapes have been tried: n of them have places, and no more can have. -/
structure Tried (P : Nat → List Nat) (U j : Nat) (H : Nat → Option Nat) (n : Nat) : Prop where
  valid : Valid P U H
  low : ∀ l, Has H l → l < j
  count : ∃ L : List Nat, L.Nodup ∧ L.length = n ∧ ∀ l, l ∈ L ↔ Has H l
  shut : ∃ D : Nat → Prop, Shut P U H D ∧ ∀ l, l < j → ¬ Has H l → ∀ g, g ∈ P l → D g ∨ U.testBit g = true
theorem Tried.start (P : Nat → List Nat) (U : Nat) : Tried P U 0 (fun _ => none) 0 where
  valid := ⟨(fun _ _ h => nomatch h), (fun _ _ _ h => nomatch h)⟩
  low := fun l ⟨_, h⟩ => nomatch h
  count := ⟨[], by simp, rfl, fun l => ⟨(fun h => nomatch h), (fun ⟨_, h⟩ => nomatch h)⟩⟩
  shut := ⟨fun _ => False, fun _ h => h.elim, fun l h => by omega⟩
theorem Tried.step {P : Nat → List Nat} {U j : Nat} {H : Nat → Option Nat} {n : Nat} (h : Tried P U j H n) {ok : Bool} {H' : Nat → Option Nat} {a' : Nat} (g : Give P U j (P j) H 0 ok H' a') : Tried P U (j + 1) H' (if ok = true then n + 1 else n) := by
  have hj : ¬ Has H j := fun q => by have := h.low j q; omega
  cases ok with
  | true =>
    rw [if_pos rfl]
    obtain ⟨V', k1, _, k3, k4⟩ := give_ok g rfl H (fun _ _ => rfl) h.valid hj (fun _ q => q)
    have e : V' = H' := funext fun x => k1 x (Nat.zero_testBit x)
    subst e
    refine ⟨k3, fun l hl => ?_, ?_, ?_⟩
    · rcases (k4 l).1 hl with q | q
      · have := h.low l q; omega
      · omega
    · obtain ⟨L, l1, l2, l3⟩ := h.count
      refine ⟨j :: L, List.nodup_cons.2 ⟨fun q => hj ((l3 j).1 q), l1⟩, by simp [l2], fun l => ?_⟩
      rw [k4, List.mem_cons, l3]
      exact Or.comm
    · obtain ⟨D, d1, d2⟩ := h.shut
      refine ⟨D, fun f hf => ?_, fun l hl hn => ?_⟩
      · obtain ⟨q1, o, q2, q3⟩ := d1 f hf
        exact ⟨q1, o, by rw [(give_shut g d1).2 f hf, q2], q3⟩
      · have hn2 : ¬ Has H l := fun q => hn ((k4 l).2 (.inl q))
        have hlj : l ≠ j := fun q => hn ((k4 l).2 (.inr q))
        exact d2 l (by omega) hn2
  | false =>
    obtain ⟨e, _, f3, f4⟩ := give_fail g rfl
    subst e
    rw [if_neg (by simp)]
    have f3' : ∀ f, f ∈ P j → a'.testBit f = true ∨ U.testBit f = true := fun f hf => by
      have := f3 f hf
      rwa [Nat.testBit_or, Bool.or_eq_true] at this
    refine ⟨h.valid, fun l hl => by have := h.low l hl; omega, h.count, ?_⟩
    obtain ⟨D, d1, d2⟩ := h.shut
    refine ⟨fun f => D f ∨ a'.testBit f = true, fun f hf => ?_, fun l hl hn g' hg => ?_⟩
    · rcases hf with hf | hf
      · obtain ⟨q1, o, q2, q3⟩ := d1 f hf
        refine ⟨q1, o, q2, fun g' hg => ?_⟩
        rcases q3 g' hg with q | q
        · exact .inl (.inl q)
        · exact .inr q
      · obtain ⟨q1, o, q2, q3⟩ := f4 f hf (Nat.zero_testBit f)
        refine ⟨q1, o, q2, fun g' hg => ?_⟩
        have := q3 g' hg
        rw [Nat.testBit_or, Bool.or_eq_true] at this
        rcases this with q | q
        · exact .inl (.inr q)
        · exact .inr q
    · by_cases e : l = j
      · subst e
        rcases f3' g' hg with q | q
        · exact .inl (.inr q)
        · exact .inr q
      · rcases d2 l (by omega) hn g' hg with q | q
        · exact .inl (.inl q)
        · exact .inr q
/-! what can be had at best -/
/-- The reference's greatest number: the rows in their order, the places that are used as a list. -/
def bestM : List (List Nat) → List Nat → Nat
  | [], _ => 0
  | r :: P, used => r.foldl (fun b p => if used.contains p then b else max b (1 + bestM P (used ++ [p]))) (bestM P used)
theorem fold_ge {g : Nat → Nat} {q : Nat → Bool} : ∀ (r : List Nat) (b : Nat), b ≤ r.foldl (fun b p => if q p = true then b else max b (g p)) b
  | [], _ => Nat.le_refl _
  | p :: r, b => by
    refine Nat.le_trans ?_ (fold_ge r (if q p = true then b else max b (g p)))
    cases q p with
    | true => exact Nat.le_refl _
    | false => exact Nat.le_max_left _ _
theorem fold_mem {g : Nat → Nat} {q : Nat → Bool} : ∀ (r : List Nat) (b : Nat) (p : Nat), p ∈ r → q p = false → g p ≤ r.foldl (fun b p => if q p = true then b else max b (g p)) b
  | [], _, _, h, _ => by cases h
  | x :: r, b, p, h, hq => by
    rcases List.mem_cons.1 h with rfl | h
    · refine Nat.le_trans ?_ (fold_ge r (if q p = true then b else max b (g p)))
      rw [hq]
      exact Nat.le_max_right _ _
    · exact fold_mem r _ p h hq
theorem fold_had {g : Nat → Nat} {q : Nat → Bool} : ∀ (r : List Nat) (b : Nat), r.foldl (fun b p => if q p = true then b else max b (g p)) b = b ∨ ∃ p, p ∈ r ∧ q p = false ∧ r.foldl (fun b p => if q p = true then b else max b (g p)) b = g p
  | [], _ => .inl rfl
  | x :: r, b => by
    simp only [List.foldl_cons]
    rcases fold_had r (if q x = true then b else max b (g x)) with h | ⟨p, h1, h2, h3⟩
    · rw [h]
      cases hx : q x with
      | true => exact .inl (by simp)
      | false =>
        simp only [Bool.false_eq_true, if_false]
        rcases Nat.le_total b (g x) with hl | hl
        · exact .inr ⟨x, by simp, hx, by rw [Nat.max_eq_right hl]⟩
        · exact .inl (Nat.max_eq_left hl)
    · exact .inr ⟨p, by simp [h1], h2, h3⟩
/-- So many of the rows can have places. -/
inductive Sel : List (List Nat) → List Nat → Nat → Prop
  | nil {used} : Sel [] used 0
  | skip {r P used n} : Sel P used n → Sel (r :: P) used n
  | take {r P used n p} : p ∈ r → p ∉ used → Sel P (used ++ [p]) n → Sel (r :: P) used (1 + n)
theorem sel_le {P : List (List Nat)} {used : List Nat} {n : Nat} (h : Sel P used n) : n ≤ bestM P used := by
  induction h with
  | nil => exact Nat.zero_le _
  | @skip r P used n _ ih => exact Nat.le_trans ih (fold_ge r _)
  | @take r P used n p hp hu _ ih => exact Nat.le_trans (Nat.add_le_add_left ih 1) (fold_mem (g := fun p => 1 + bestM P (used ++ [p])) r (bestM P used) p hp (by simpa using hu))
theorem sel_best : ∀ (P : List (List Nat)) (used : List Nat), Sel P used (bestM P used)
  | [], _ => .nil
  | r :: P, used => by
    rcases fold_had (g := fun p => 1 + bestM P (used ++ [p])) (q := fun p => used.contains p) r (bestM P used) with h | ⟨p, h1, h2, h3⟩
    · show Sel (r :: P) used (r.foldl _ _)
      rw [h]
      exact .skip (sel_best P used)
    · show Sel (r :: P) used (r.foldl _ _)
      rw [h3]
      exact .take h1 (by simpa using h2) (sel_best P _)
/-- Places for some of the rows: V k: the place of row k. -/
structure Part (P : List (List Nat)) (used : List Nat) (L : List Nat) (V : Nat → Nat) : Prop where
  nd : L.Nodup
  ok : ∀ l, l ∈ L → l < P.length ∧ V l ∈ P.getD l [] ∧ V l ∉ used
  inj : ∀ k l, k ∈ L → l ∈ L → V k = V l → k = l
theorem succ_nodup {L : List Nat} (h : L.Nodup) : (L.map (· + 1)).Nodup := nodup_map h fun x y _ _ e => by omega
theorem sel_part {P : List (List Nat)} {used : List Nat} {n : Nat} (h : Sel P used n) : ∃ L V, Part P used L V ∧ L.length = n := by
  induction h with
  | nil => exact ⟨[], fun _ => 0, ⟨by simp, by simp, by simp⟩, rfl⟩
  | @skip r P used n _ ih =>
    obtain ⟨L, V, h, rfl⟩ := ih
    refine ⟨L.map (· + 1), fun k => V (k - 1), ⟨succ_nodup h.nd, fun l hl => ?_, fun k l hk hl e => ?_⟩, by simp⟩
    · obtain ⟨x, hx, rfl⟩ := List.mem_map.1 hl
      obtain ⟨h1, h2, h3⟩ := h.ok x hx
      exact ⟨by simp [h1], by simpa using h2, by simpa using h3⟩
    · obtain ⟨x, hx, rfl⟩ := List.mem_map.1 hk
      obtain ⟨y, hy, rfl⟩ := List.mem_map.1 hl
      rw [h.inj x y hx hy (by simpa using e)]
  | @take r P used n p hp hu _ ih =>
    obtain ⟨L, V, h, rfl⟩ := ih
    refine ⟨0 :: L.map (· + 1), fun k => if k = 0 then p else V (k - 1), ⟨List.nodup_cons.2 ⟨by simp, succ_nodup h.nd⟩, fun l hl => ?_, fun k l hk hl e => ?_⟩, by simp; omega⟩
    · rcases List.mem_cons.1 hl with rfl | hl
      · exact ⟨by simp, by simpa using hp, by simpa using hu⟩
      · obtain ⟨x, hx, rfl⟩ := List.mem_map.1 hl
        obtain ⟨h1, h2, h3⟩ := h.ok x hx
        refine ⟨by simp [h1], by simpa using h2, ?_⟩
        simp only [List.mem_append, not_or] at h3
        simpa using h3.1
    · have key : ∀ x, x ∈ L → V x ≠ p := fun x hx e => by
        have := (h.ok x hx).2.2
        simp [e] at this
      rcases List.mem_cons.1 hk with rfl | hk <;> rcases List.mem_cons.1 hl with rfl | hl
      · rfl
      · obtain ⟨y, hy, rfl⟩ := List.mem_map.1 hl
        exact absurd (by simpa using e.symm) (key y hy)
      · obtain ⟨y, hy, rfl⟩ := List.mem_map.1 hk
        exact absurd (by simpa using e) (key y hy)
      · obtain ⟨x, hx, rfl⟩ := List.mem_map.1 hk
        obtain ⟨y, hy, rfl⟩ := List.mem_map.1 hl
        rw [h.inj x y hx hy (by simpa using e)]
theorem part_sel : ∀ {P : List (List Nat)} {used L : List Nat} {V : Nat → Nat}, Part P used L V → Sel P used L.length
  | [], used, L, V, h => by
    cases L with
    | nil => exact .nil
    | cons l L => exact absurd (h.ok l (by simp)).1 (by simp)
  | r :: P, used, L, V, h => by
    have key : ∀ (L' used' : List Nat), L'.Nodup → (∀ l, l ∈ L' → l ∈ L ∧ l ≠ 0 ∧ V l ∉ used') → Sel P used' L'.length := by
      intro L' used' hn hL
      have hp : Part P used' (L'.map (· - 1)) (fun k => V (k + 1)) := by
        have e : ∀ l, l ∈ L' → l - 1 + 1 = l := fun l hl => by have := (hL l hl).2.1; omega
        refine ⟨nodup_map hn fun x y hx hy q => by have := e x hx; have := e y hy; omega, fun l hl => ?_, fun k l hk hl q => ?_⟩
        · obtain ⟨x, hx, rfl⟩ := List.mem_map.1 hl
          obtain ⟨h1, h2, h3⟩ := h.ok x (hL x hx).1
          have ex := e x hx
          refine ⟨by simp only [List.length_cons] at h1; omega, ?_, by rw [ex]; exact (hL x hx).2.2⟩
          rw [ex]
          have h2' : V x ∈ (r :: P).getD (x - 1 + 1) [] := by rw [ex]; exact h2
          simpa using h2'
        · obtain ⟨x, hx, rfl⟩ := List.mem_map.1 hk
          obtain ⟨y, hy, rfl⟩ := List.mem_map.1 hl
          have q' : V (x - 1 + 1) = V (y - 1 + 1) := q
          rw [e x hx, e y hy] at q'
          rw [h.inj x y (hL x hx).1 (hL y hy).1 q']
      have := part_sel hp
      simpa using this
    by_cases h0 : 0 ∈ L
    · have h1 := List.length_erase_of_mem h0
      have h2 := List.length_pos_of_mem h0
      have e : L.length = 1 + (L.erase 0).length := by omega
      rw [e]
      obtain ⟨_, hp, hu⟩ := h.ok 0 h0
      refine .take (p := V 0) (by simpa using hp) hu (key (L.erase 0) _ (h.nd.erase 0) fun l hl => ?_)
      obtain ⟨hl1, hl2⟩ := (List.Nodup.mem_erase_iff h.nd).1 hl
      refine ⟨hl2, hl1, ?_⟩
      simp only [List.mem_append, List.mem_singleton, not_or]
      exact ⟨(h.ok l hl2).2.2, fun q => hl1 (h.inj l 0 hl2 h0 q)⟩
    · exact .skip (key L used h.nd fun l hl => ⟨hl, fun q => h0 (q ▸ hl), (h.ok l hl).2.2⟩)
/-- The place of each of some shapes. -/
theorem pick_place {H : Nat → Option Nat} {L : List Nat} (h : ∀ l, l ∈ L → Has H l) : ∃ V : Nat → Nat, ∀ l, l ∈ L → H (V l) = some l := by
  refine ⟨fun l => open Classical in if hl : Has H l then hl.choose else 0, fun l hl => ?_⟩
  have h1 := h l hl
  simp only [dif_pos h1]
  exact h1.choose_spec
/-- The bits of a set, as a list of what is used. -/
def Bits (U : Nat) (used : List Nat) : Prop := ∀ f, f ∈ used ↔ U.testBit f = true
/-- The number that the search comes to is the greatest one. -/
theorem Tried.best {P : List (List Nat)} {U : Nat} {used : List Nat} {H : Nat → Option Nat} {n : Nat} (hu : Bits U used) (h : Tried (fun k => P.getD k []) U P.length H n) : n = bestM P used := by
  obtain ⟨L, l1, l2, l3⟩ := h.count
  obtain ⟨D, d1, d2⟩ := h.shut
  refine Nat.le_antisymm ?_ ?_
  · -- the search's own places are a choice
    obtain ⟨V, hV⟩ := pick_place fun l hl => (l3 l).1 hl
    have hp : Part P used L V := ⟨l1, fun l hl => by
      obtain ⟨q1, q2⟩ := h.valid.ok (V l) l (hV l hl)
      exact ⟨h.low l ⟨V l, hV l hl⟩, q1, fun q => by rw [(hu _).1 q] at q2; cases q2⟩, fun k l hk hl e => by
      have h1 := hV k hk
      rw [e, hV l hl] at h1
      cases h1
      rfl⟩
    rw [← l2]
    exact sel_le (part_sel hp)
  · obtain ⟨M, V, hm, e⟩ := sel_part (sel_best P used)
    rw [← e, ← l2]
    -- send each shape of the choice to a shape that has a place
    have hsh : ∀ l, l ∈ M → (∀ g, g ∈ P.getD l [] → D g ∨ U.testBit g = true) → D (V l) := fun l hl hg => by
      obtain ⟨_, h2, h3⟩ := hm.ok l hl
      rcases hg _ h2 with q | q
      · exact q
      · exact absurd ((hu _).2 q) h3
    have : ∃ T : Nat → Nat, ∀ l, T l = (open Classical in if (∀ g, g ∈ P.getD l [] → D g ∨ U.testBit g = true) then (H (V l)).getD 0 else l) := ⟨_, fun _ => rfl⟩
    obtain ⟨T, hT⟩ := this
    have hT1 : ∀ l, (∀ g, g ∈ P.getD l [] → D g ∨ U.testBit g = true) → T l = (H (V l)).getD 0 := fun l q => by rw [hT, if_pos q]
    have hT2 : ∀ l, ¬ (∀ g, g ∈ P.getD l [] → D g ∨ U.testBit g = true) → T l = l := fun l q => by rw [hT, if_neg q]
    have hT3 : ∀ l, l ∈ M → (∀ g, g ∈ P.getD l [] → D g ∨ U.testBit g = true) → H (V l) = some (T l) ∧ ∀ g, g ∈ P.getD (T l) [] → D g ∨ U.testBit g = true := fun l hl q => by
      obtain ⟨_, o, ho, hg⟩ := d1 _ (hsh l hl q)
      rw [hT1 l q, ho]
      exact ⟨rfl, hg⟩
    have hmap : (M.map T).Nodup := nodup_map hm.nd fun x y hx hy q => by
      by_cases qx : ∀ g, g ∈ P.getD x [] → D g ∨ U.testBit g = true <;> by_cases qy : ∀ g, g ∈ P.getD y [] → D g ∨ U.testBit g = true
      · have h1 := (hT3 x hx qx).1
        have h2 := (hT3 y hy qy).1
        rw [q, ← h2] at h1
        rw [h2] at h1
        exact hm.inj x y hx hy (h.valid.inj _ _ _ h1 h2)
      · have h1 := (hT3 x hx qx).2
        rw [q, hT2 y qy] at h1
        exact absurd h1 qy
      · have h1 := (hT3 y hy qy).2
        rw [← q, hT2 x qx] at h1
        exact absurd h1 qx
      · rw [hT2 x qx, hT2 y qy] at q
        exact q
    have := nodup_le (M.map T) L hmap fun t ht => by
      obtain ⟨l, hl, rfl⟩ := List.mem_map.1 ht
      rw [l3]
      by_cases q : ∀ g, g ∈ P.getD l [] → D g ∨ U.testBit g = true
      · exact ⟨_, (hT3 l hl q).1⟩
      · rw [hT2 l q]
        refine Classical.byContradiction fun hn => q ?_
        exact d2 l (hm.ok l hl).1 hn
    simpa using this
/-- Where one shape has no place, some shapes have too few places between them. -/
theorem Tried.lack {P : Nat → List Nat} {m : Nat} {H : Nat → Option Nat} {n : Nat} (h : Tried P 0 m H n) (hn : n < m) : ∃ (S D : List Nat), S.Nodup ∧ (∀ l, l ∈ S → l < m) ∧ D.length < S.length ∧ ∀ l, l ∈ S → ∀ g, g ∈ P l → g ∈ D := by
  obtain ⟨L, l1, l2, l3⟩ := h.count
  obtain ⟨D, d1, d2⟩ := h.shut
  -- a shape that has no place
  obtain ⟨l0, hl0, hn0⟩ : ∃ l, l < m ∧ ¬ Has H l := by
    refine Classical.byContradiction fun hc => ?_
    have := nodup_le (List.range m) L List.nodup_range fun l hl => by
      rw [l3]
      exact Classical.byContradiction fun hh => hc ⟨l, List.mem_range.1 hl, hh⟩
    rw [List.length_range] at this
    omega
  -- the shapes whose places are shut, and their places
  obtain ⟨V, hV⟩ := pick_place fun l hl => (l3 l).1 hl
  have hd : ∃ q : Nat → Bool, ∀ l, q l = true ↔ D (V l) := ⟨fun l => open Classical in decide (D (V l)), fun l => by simp⟩
  obtain ⟨q, hq⟩ := hd
  have hz : ∀ g : Nat, ¬ (0 : Nat).testBit g = true := fun g e => by rw [Nat.zero_testBit] at e; cases e
  have hin : ∀ g, D g → g ∈ (L.filter q).map V := fun g hg => by
    obtain ⟨_, o, ho, _⟩ := d1 g hg
    have hoL : o ∈ L := (l3 o).2 ⟨g, ho⟩
    have e : V o = g := h.valid.inj _ _ _ (hV o hoL) ho
    exact List.mem_map.2 ⟨o, List.mem_filter.2 ⟨hoL, (hq o).2 (by rw [e]; exact hg)⟩, e⟩
  refine ⟨l0 :: L.filter q, (L.filter q).map V, List.nodup_cons.2 ⟨fun hh => hn0 ((l3 l0).1 (List.mem_filter.1 hh).1), l1.filter _⟩, fun l hl => ?_, by simp, fun l hl g hg => ?_⟩
  · rcases List.mem_cons.1 hl with rfl | hl
    · exact hl0
    · exact h.low l ((l3 l).1 (List.mem_filter.1 hl).1)
  · rcases List.mem_cons.1 hl with rfl | hl
    · rcases d2 l hl0 hn0 g hg with w | w
      · exact hin g w
      · exact absurd w (hz g)
    · obtain ⟨k1, k2⟩ := List.mem_filter.1 hl
      obtain ⟨_, o, ho, hgo⟩ := d1 _ ((hq l).1 k2)
      rw [hV l k1] at ho
      cases ho
      rcases hgo g hg with w | w
      · exact hin g w
      · exact absurd w (hz g)
end Go.Proofs.YtabgcpoaepafjaaGreat
