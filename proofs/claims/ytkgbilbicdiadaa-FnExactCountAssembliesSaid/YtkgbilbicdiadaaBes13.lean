/- Words for a table of bools in memory: a row of headers and a block for each row, all the call's own; and for the headers while they grow. No condition. -/
import Derived.Test.YtkgbilbicdiadaaMat
import Derived.Test.YtkgbilbicdiadaaOwn
import Derived.Test.YtkgbilbicdiadaaPanes
set_option linter.unusedSimpArgs false
set_option linter.unusedVariables false
namespace Go.Proofs.Ytkgbilbicdiadaa
open Go.RowKit

/-- The table f with one place changed. -/
def updB (f : Nat → Nat → Bool) (i j : Nat) (v : Bool) : Nat → Nat → Bool := fun a b => if a = i ∧ b = j then v else f a b
theorem updB_same (f : Nat → Nat → Bool) (i j : Nat) (v : Bool) : updB f i j v i j = v := by simp [updB]
theorem updB_ne (f : Nat → Nat → Bool) (i j : Nat) (v : Bool) {a b : Nat} (h : a ≠ i ∨ b ≠ j) : updB f i j v a b = f a b := by
  unfold updB
  rw [if_neg (by omega)]
/-- A row of bools. -/
def rowB (n : Nat) (f : Nat → Bool) : List Value := (List.range n).map fun j => Value.bool (f j)
theorem rowB_get {n j : Nat} (f : Nat → Bool) (h : j < n) : (rowB n f)[j]? = some (.bool (f j)) := by simp [rowB, h]
theorem rowB_length (n : Nat) (f : Nat → Bool) : (rowB n f).length = n := by simp [rowB]
theorem rowB_set {n j : Nat} (f : Nat → Bool) (v : Bool) (h : j < n) : (rowB n f).set j (.bool v) = rowB n (fun k => if k = j then v else f k) := by
  apply List.ext_getElem?
  intro k
  by_cases hk : k = j
  · subst hk
    rw [List.getElem?_set_self (by rw [rowB_length]; exact h), rowB_get _ h]
    simp
  · rw [List.getElem?_set_ne (fun e => hk e.symm)]
    by_cases hkn : k < n
    · rw [rowB_get _ hkn, rowB_get _ hkn]
      simp [hk]
    · rw [List.getElem?_eq_none (by rw [rowB_length]; omega), List.getElem?_eq_none (by rw [rowB_length]; omega)]
theorem rowB_zero (n : Nat) : List.replicate n (Value.bool false) = rowB n (fun _ => false) := by
  apply List.ext_getElem?
  intro k
  by_cases hkn : k < n
  · rw [rowB_get _ hkn]
    simp [hkn]
  · rw [List.getElem?_eq_none (by simp; omega), List.getElem?_eq_none (by rw [rowB_length]; omega)]
/-- Block hd holds n headers at least; the first n rows, of n bools each, read as f; all blocks lie below U. -/
def MatB (w : World) (B U hd n : Nat) (Th Te : TypeId) (f : Nat → Nat → Bool) : Prop :=
  ∃ (G : Nat → Nat) (hs : List Value), B ≤ hd ∧ hd < U ∧ Blk w hd Th hs ∧ n ≤ hs.length ∧ (∀ i, i < n → hs[i]? = some (.slice (some ⟨G i, 0, none⟩) n n) ∧ B ≤ G i ∧ G i < U ∧ G i ≠ hd ∧ Blk w (G i) Te (rowB n (f i))) ∧ (∀ i j, i < n → j < n → G i = G j → i = j)
section
variable {w w' : World} {B U hd n : Nat} {Th Te : TypeId} {f f' : Nat → Nat → Bool}
theorem MatB.ext (h : MatB w B U hd n Th Te f) (hE : Ext w w') : MatB w' B U hd n Th Te f := by
  obtain ⟨G, hs, h1, h0, h2, h3, h5, h6⟩ := h
  exact ⟨G, hs, h1, h0, h2.ext hE, h3, fun i hi => ⟨(h5 i hi).1, (h5 i hi).2.1, (h5 i hi).2.2.1, (h5 i hi).2.2.2.1, (h5 i hi).2.2.2.2.ext hE⟩, h6⟩
theorem MatB.mono {B' U' : Nat} (h : MatB w B U hd n Th Te f) (hB : B' ≤ B) (hU : U ≤ U') : MatB w B' U' hd n Th Te f := by
  obtain ⟨G, hs, h1, h0, h2, h3, h5, h6⟩ := h
  exact ⟨G, hs, by omega, by omega, h2, h3, fun i hi => ⟨(h5 i hi).1, Nat.le_trans hB (h5 i hi).2.1, Nat.lt_of_lt_of_le (h5 i hi).2.2.1 hU, (h5 i hi).2.2.2⟩, h6⟩
theorem MatB.lt (h : MatB w B U hd n Th Te f) : B ≤ hd ∧ hd < U ∧ hd < w.heap.size := by
  obtain ⟨G, hs, h1, h0, h2, _⟩ := h
  exact ⟨h1, h0, h2.lt⟩
/-- A place of the table: its header, its cell, and what a store there leaves. -/
theorem MatB.at_ (h : MatB w B U hd n Th Te f) {i j : Nat} (hi : i < n) (hj : j < n) : ∃ g, w.cell? ⟨hd, i, none⟩ = some (.slice (some ⟨g, 0, none⟩) n n) ∧ w.cell? ⟨g, j, none⟩ = some (.bool (f i j)) ∧ w.frozen? ⟨g, j, none⟩ = false ∧
    B ≤ g ∧ g < U ∧ g < w.heap.size ∧ ∀ v, MatB (w.setCell ⟨g, j, none⟩ (.bool v)) B U hd n Th Te (updB f i j v) := by
  obtain ⟨G, hs, h1, h0, h2, h3, h5, h6⟩ := h
  obtain ⟨e1, e2, e0, e3, e4⟩ := h5 i hi
  refine ⟨G i, by rw [h2.cell, e1], by rw [e4.cell, rowB_get _ hj], e4.free _, e2, e0, e4.lt, fun v => ?_⟩
  refine ⟨G, hs, h1, h0, h2.other (fun e => e3 e.symm) _, h3, fun k hk => ⟨(h5 k hk).1, (h5 k hk).2.1, (h5 k hk).2.2.1, (h5 k hk).2.2.2.1, ?_⟩, h6⟩
  by_cases hki : k = i
  · subst hki
    have := e4.set j (.bool v)
    rw [rowB_set _ _ hj] at this
    have e : (fun b => if b = j then v else f k b) = updB f k j v k := by
      funext b
      simp [updB]
    rw [← e]
    exact this
  · have e : f k = updB f i j v k := by
      funext b
      rw [updB_ne _ _ _ _ (.inl hki)]
    rw [← e]
    exact (h5 k hk).2.2.2.2.other (fun e => hki (h6 k i hk hi e)) _
end
/-- A row of k headers that grows, each header's row of n zeros in a block of its own. -/
def HdrB (w : World) (B : Nat) (v : Value) (k n : Nat) (Th Te : TypeId) : Prop :=
  ∃ G : Nat → Nat, w.ownsRow B Th 1 v k ((List.range k).map fun i => Value.slice (some ⟨G i, 0, none⟩) n n) ∧ (∀ i, i < k → B ≤ G i ∧ v.ownBlock ≠ some (G i) ∧ Blk w (G i) Te (List.replicate n (Value.bool false))) ∧ ∀ i j, i < k → j < k → G i = G j → i = j
theorem HdrB.step {w w2 w4 : World} {B k n g : Nat} {v v' : Value} {Th Te : TypeId} {G : Nat → Nat} (h1 : w.ownsRow B Th 1 v k ((List.range k).map fun i => Value.slice (some ⟨G i, 0, none⟩) n n)) (h2 : ∀ i, i < k → B ≤ G i ∧ v.ownBlock ≠ some (G i) ∧ Blk w (G i) Te (List.replicate n (Value.bool false))) (h3 : ∀ i j, i < k → j < k → G i = G j → i = j) (hE : Ext w w2) (hg : g = w.heap.size) (hB : B ≤ w.heap.size) (hb : Blk w2 g Te (List.replicate n (Value.bool false)))
    (hgr : (w2.alloc (.cells #[Value.slice (some ⟨g, 0, none⟩) n n] Th)).grownBy w4 v.ownBlock) (hv : v'.ownBlock = v.ownBlock ∨ v'.ownBlock = some (w2.alloc (.cells #[Value.slice (some ⟨g, 0, none⟩) n n] Th)).heap.size)
    (how : w4.ownsRow B Th 1 v' (k + 1) ((List.range k).map (fun i => Value.slice (some ⟨G i, 0, none⟩) n n) ++ [Value.slice (some ⟨g, 0, none⟩) n n])) : HdrB w4 B v' (k + 1) n Th Te := by
  have hlt : ∀ i, i < k → G i < w.heap.size := fun i hi => (h2 i hi).2.2.lt
  have hgl := hb.lt
  have hsz := hE.size
  have hne : ∀ x, x < w2.heap.size → v.ownBlock ≠ some x → v'.ownBlock ≠ some x := by
    intro x hx hn e
    rcases hv with e' | e'
    · rw [e'] at e
      exact hn e
    · rw [e'] at e
      injection e with e
      simp at e
      omega
  have hvg : v.ownBlock ≠ some g := by
    intro e
    have := (h1.lt g e).2
    omega
  refine ⟨fun i => if i = k then g else G i, ?_, fun i hi => ?_, fun i j hi hj e => ?_⟩
  · have := how
    have e : (List.range (k + 1)).map (fun i => Value.slice (some ⟨if i = k then g else G i, 0, none⟩) n n) = (List.range k).map (fun i => Value.slice (some ⟨G i, 0, none⟩) n n) ++ [Value.slice (some ⟨g, 0, none⟩) n n] := by
      rw [List.range_succ, List.map_append]
      congr 1
      · apply List.map_congr_left
        intro i hi
        have := List.mem_range.1 hi
        rw [if_neg (by omega)]
      · simp
    rw [e]
    exact this
  · by_cases hik : i = k
    · subst hik
      simp only [if_true]
      exact ⟨by omega, hne g hgl hvg, (hb.ext ((Ext.refl _).alloc _)).grown hgr hvg⟩
    · simp only [hik, if_false]
      obtain ⟨e1, e2, e3⟩ := h2 i (by omega)
      exact ⟨e1, hne _ (Nat.lt_of_lt_of_le e3.lt hsz) e2, ((e3.ext hE).ext ((Ext.refl _).alloc _)).grown hgr e2⟩
  · have a1 := hlt i
    have a2 := hlt j
    have a3 := h3 i j
    by_cases hik : i = k <;> by_cases hjk : j = k <;> simp [hik, hjk] at e <;> omega
theorem HdrB.mat {w : World} {B k : Nat} {v : Value} {Th Te : TypeId} (h : HdrB w B v k k Th Te) (hk : 0 < k) : ∃ hd c, v = .slice (some ⟨hd, 0, none⟩) k c ∧ k ≤ c ∧ MatB w B w.heap.size hd k Th Te (fun _ _ => false) := by
  obtain ⟨G, h1, h2, h3⟩ := h
  obtain ⟨A, c, rfl, hc, h4, h5⟩ := own_slice h1
  cases A with
  | none => exact absurd (h4 rfl) (by omega)
  | some a =>
    obtain ⟨g, rfl, h6, h7, h8⟩ := h5 a rfl
    obtain ⟨cs, b1, b2, b3, b4⟩ := Blk.of_own h1
    refine ⟨g, c, rfl, hc, G, cs, h6, h7, b1, by omega, fun i hi => ?_, h3⟩
    obtain ⟨e1, e2, e3⟩ := h2 i hi
    refine ⟨?_, e1, e3.lt, fun e => e2 (by rw [h8, e]), ?_⟩
    · have : (cs.take (k * 1))[i]? = some (Value.slice (some ⟨G i, 0, none⟩) k k) := by rw [b2]; simp [hi]
      rw [List.getElem?_take_of_lt (by omega)] at this
      exact this
    · rw [← rowB_zero]
      exact e3
end Go.Proofs.Ytkgbilbicdiadaa
namespace Go.Proofs.Ytkgbilbicdiadaa
open Go.RowKit

theorem bes_step {s : Nat → Nat} {k : Nat} (hne : s (2 * k) ≠ s (2 * k + 1)) : updB (updB (besTo s k) (s (2 * k)) (s (2 * k + 1)) true) (s (2 * k + 1)) (s (2 * k)) true = besTo s (k + 1) := by
  funext a b
  simp only [updB, besTo]
  by_cases h1 : a = s (2 * k + 1) ∧ b = s (2 * k)
  · rw [if_pos h1]
    simp [hne, h1.1, h1.2]
  · rw [if_neg h1]
    by_cases h2 : a = s (2 * k) ∧ b = s (2 * k + 1)
    · rw [if_pos h2]
      simp [hne, h2.1, h2.2]
    · rw [if_neg h2]
      have e1 : (decide (a = s (2 * k + 1)) && decide (b = s (2 * k))) = false := by rw [← Bool.decide_and, decide_eq_false h1]
      have e2 : (decide (a = s (2 * k)) && decide (b = s (2 * k + 1))) = false := by rw [← Bool.decide_and, decide_eq_false h2]
      rw [e1, e2]
      simp
theorem bes_same {s : Nat → Nat} {k : Nat} (he : s (2 * k) = s (2 * k + 1)) : besTo s k = besTo s (k + 1) := by
  funext a b
  simp [besTo, he]
theorem made_falses (n : Nat) : (madeCells (Value.bool false).cells (n * 1)).toList = List.replicate n (Value.bool false) := by
  rw [Nat.mul_one]
  exact toList_madeCells_one _ _
theorem rowb_info : (Try.prog.info? 99).map (fun i => (i.zero, i.size, i.bytes)) = some (some (.slice none 0 0), 1, 24) := by kernel_rfl
set_option maxRecDepth 20000 in
set_option maxHeartbeats 4000000 in
theorem l13Beside_any (N E : List P2) (A B : Option Addr) (c c' : Nat) (w : World) (hw : WR w N E A B c c') (hwh : wholeB N E = true) :
    Calls Try.prog 99 #[.agg #[.slice A N.length c, .slice B E.length c']] w fun e w' => ∃ hd c2 U, e = .returned (.slice (some ⟨hd, 0, none⟩) (fcs N E).length c2) ∧ MatB w' w.heap.size U hd (fcs N E).length 99 4 (besTo (sd N E) E.length) ∧ Ext w w' := by
  obtain ⟨i0, hi, hz0, hz1, hz2⟩ := info_parts rowb_info
  obtain ⟨j0, hj, hy0, hy1, hy2⟩ := info_parts bool_info
  have HW := hide hw
  have hm := (wholeB_iff.1 hwh).1.m
  have hsd := sd_lt hwh
  have hl40 := fcs_len (N := N) (E := E)
  have hpos := (fcs_facts hwh).1
  have HFA := hide (fun (W : World) (hE : Ext w W) => l09Sides_any N E A B c c' W (hw.ext hE) hwh)
  have HFO := hide (fun (W : World) (hE : Ext w W) => (sFacesOf_any N E A B c c' W (hw.ext hE)).mono (R' := fun e w' => ∃ A2 c2, e = .returned (.slice A2 (fcs N E).length c2) ∧ Ext W w') (by rintro e w' ⟨A2, c2, h1, _, _, h2⟩; exact ⟨A2, c2, h1, h2⟩))
  obtain ⟨n, hn⟩ : ∃ n, (fcs N E).length = n := ⟨_, rfl⟩
  obtain ⟨s, hs⟩ : ∃ s, sd N E = s := ⟨_, rfl⟩
  rw [hn] at hsd hl40 hpos HFO ⊢
  rw [hs] at hsd HFA ⊢
  have HSD := hide hsd
  clear hw hwh hn hs hsd
  
  go_enter Try.func99, Try.ntmps99
  go_wp2_with fail
  obtain ⟨w0, hw⟩ : ∃ w1, w1 = w.alloc (Obj.cells #[Value.slice A N.length c, Value.slice B E.length c'] 27) := ⟨_, rfl⟩; rw [← hw]; have kT : Tr [(w.heap.size, [.slice A N.length c, .slice B E.length c'])] w w0 := (by rw [hw]; exact ⟨by (first | (simp [Bx, CellsAt, go_sem, *]; done) | (simp [Bx, CellsAt, go_sem, *]; omega)), by (repeat (first | exact kE | exact Ext.refl _ | apply Ext.alloc | apply Ext.drewN | apply Ext.drew | apply Ext.set0 | apply Ext.set1 | apply Ext.set2 | apply Ext.set3 | (refine Ext.setk ?_ (by omega) _) | (apply Ext.snoc; assumption)))⟩); have HT := hide kT; clear hw kT; have kT := HT.out; simp only [Tr, Bx, CellsAt, Nat.reduceAdd, Nat.zero_add, and_true] at kT; obtain ⟨⟨kz0, kf0, kc0_0, kc0_1⟩, kE⟩ := kT
  refine (HFO.out _ kE).mono ?_
  rintro e w2 ⟨A2, c2, rfl, hb2⟩
  have HT' := hide (HT.out.ext hb2)
  clear hb2 HT
  have HT := HT'
  clear HT'
  clear kz0 kf0 kc0_0 kc0_1 kE
  have kT := HT.out; simp only [Tr, Bx, CellsAt, Nat.reduceAdd, Nat.zero_add, and_true] at kT; obtain ⟨⟨kz0, kf0, kc0_0, kc0_1⟩, kE⟩ := kT
  have HW2 := hide kE
  go_wp2_with fail
  have hO := World.ownsRow_lit (base := w2.heap.size) (e := 99) (size := 1) w2 #[] 0 (Nat.le_refl _) (Nat.zero_le _) rfl
  have HO := hide hO
  clear hO
  have HTZ := HT
  clear kz0 kf0 kc0_0 kc0_1 kE
  clear HT
  go_loopw [4, 5] (fun v i wr => ∃ k : Nat, k ≤ n ∧ i = .int .i64 k ∧ Hid (HdrB wr w2.heap.size v k n 99 4) ∧ Hid (Ext w2 wr)) (fun _ i _ => n - (intOf i).toNat)
  case atStart => exact ⟨0, Nat.zero_le _, rfl, hide ⟨fun _ => 0, by simpa using HO.out, fun i hi => absurd hi (Nat.not_lt_zero i), fun i j hi => absurd hi (Nat.not_lt_zero i)⟩, hide ((Ext.refl _).alloc _)⟩
  case round =>
    clear HO
    obtain ⟨k, hk, rfl, HH, HE⟩ := hrel
    have hsz : w2.heap.size ≤ wr.heap.size := HE.out.size
    by_cases hlt : k < n
    · have hlz : (k : Int) < (n : Int) := by omega
      obtain ⟨G, h1, h2, h3⟩ := HH.out
      have H1 := hide h1
      have H2 := hide h2
      have H3 := hide h3
      clear h1 h2 h3
      go_wp2_with (first | (at_make; refine wpList_make_full _ rfl _ _ 99 rfl w2.heap.size 4 j0 (.bool false) 1 Try.underlying99 hj hy0 hy1 .i64 .i64 n n n rfl rfl (by omega) (by omega) (by rw [hy2]; omega) (by unfold maxLen; omega) (by omega) ?_; intro w3 hown hgrow; have hX2 := grown_ext hgrow; have HX2 := hide hX2; have hs2 := hX2.size; clear hX2) | (at_builtin; refine wpList_append_own_at _ rfl _ _ 95 rfl w2.heap.size 99 i0 (.slice none 0 0) 1 24 Try.underlying95 hi hz0 hz1 hz2 rfl (by decide) u4 _ _ rfl (own_ext H1.out (HX2.out.alloc _)) ⟨w3.heap.size, 0, none⟩ 1 1 [Value.slice (some ⟨wr.heap.size, 0, none⟩) n n] rfl rfl (news_new _ #[Value.slice (some ⟨wr.heap.size, 0, none⟩) n n] _) (by intro u hu; simp at hu; subst hu; rfl) (by unfold maxLen; omega) (by omega) (by simp; omega) ?_; intro v' w4 hown4 hgrow4 hnil hblk))
      rw [made_falses] at hown
      have R := HdrB.step H1.out H2.out H3.out HX2.out rfl hsz (Blk.of_full hown) hgrow4 hblk hown4
      have E4 := Ext.grown ((HE.out.trans HX2.out).alloc _) hgrow4 (own_base H1.out (Nat.le_refl _))
      clear hown hgrow hown4 hgrow4 hnil hblk
      go_roundw
      case rel => exact ⟨k + 1, by omega, by go_num, hide R, hide E4⟩
      case measure => simp [intOf]; omega
    · obtain rfl : n = k := by omega
      obtain ⟨hd, ch, rfl, hch, hmat⟩ := HH.out.mat (by omega)
      have HM := hide hmat
      clear hmat HH
      have HT := hide (HTZ.out.ext HE.out)
      have kT := HT.out; simp only [Tr, Bx, CellsAt, Nat.reduceAdd, Nat.zero_add, and_true] at kT; obtain ⟨⟨kz0, kf0, kc0_0, kc0_1⟩, kE⟩ := kT
      have HE2 := HE
      go_wp2_with fail
      refine (HFA.out _ kE).mono ?_
      rintro e w5 ⟨ga, ca, rfl, hat, hb5⟩
      have HAT := hide hat
      have HM5 := hide (HM.out.ext hb5)
      have HE5 := hide (HE2.out.trans hb5)
      have hU : wr.heap.size ≤ w5.heap.size := hb5.size
      clear hat hb5 HM HE HE2
      clear kz0 kf0 kc0_0 kc0_1 kE
      clear HT
      obtain ⟨U, hU0⟩ : ∃ U, wr.heap.size = U := ⟨_, rfl⟩
      rw [hU0] at HAT HM5 hU
      clear hU0
      have HT := hide (HTZ.out.ext HE5.out)
      have kT := HT.out; simp only [Tr, Bx, CellsAt, Nat.reduceAdd, Nat.zero_add, and_true] at kT; obtain ⟨⟨kz0, kf0, kc0_0, kc0_1⟩, kE⟩ := kT
      go_wp2_with fail
      clear kz0 kf0 kc0_0 kc0_1 kE
      clear HT
      go_loopw [7] (fun i wi => ∃ k : Nat, k ≤ E.length ∧ i = .int .i64 k ∧ Hid (MatB wi w2.heap.size U hd n 99 4 (besTo s k)) ∧ Hid (wi.ownsRow U 3 1 (.slice (some ⟨ga, 0, none⟩) (2 * E.length) ca) (2 * E.length) (rowOf (2 * E.length) (fun d => ((s d : Nat) : Int)))) ∧ Hid (Ext w2 wi)) (fun i _ => E.length - (intOf i).toNat)
      case atStart => exact ⟨0, Nat.zero_le _, rfl, HM5, HAT, HE5⟩
      case round =>
        clear HM5 HAT HE5
        obtain ⟨k, hk, rfl, HM, HAT, HE⟩ := hrel
        have HT := hide (HTZ.out.ext HE.out)
        have kT := HT.out; simp only [Tr, Bx, CellsAt, Nat.reduceAdd, Nat.zero_add, and_true] at kT; obtain ⟨⟨kz0, kf0, kc0_0, kc0_1⟩, kE⟩ := kT
        by_cases hlt : k < E.length
        · have hlz : (k : Int) < (E.length : Int) := by omega
          have hat := HAT.out
          obtain ⟨i1, hi1⟩ : ∃ i1, i1 = 2 * k := ⟨_, rfl⟩
          obtain ⟨i2, hi2⟩ : ∃ i2, i2 = 2 * k + 1 := ⟨_, rfl⟩
          have ca1 := own_cellR hat (k := i1) (by omega)
          have ca2 := own_cellR hat (k := i2) (by omega)
          have y1 : (2 * (k : Int)).toNat = i1 := by omega
          have y2 : (2 * (k : Int) + 1).toNat = i2 := by omega
          have y3 : (0 : Int) ≤ 2 * (k : Int) := by omega
          have y4 : (0 : Int) ≤ 2 * (k : Int) + 1 := by omega
          have y5 : 2 * (k : Int) + 1 < 2 * (E.length : Int) := by omega
          have y8 : 2 * (k : Int) < 2 * (E.length : Int) := by omega
          have y6 : IntKind.i64.wrap (2 * (k : Int)) = 2 * (k : Int) := by rw [IntKind.wrap_i64]; omega
          have y7 : IntKind.i64.wrap (2 * (k : Int) + 1) = 2 * (k : Int) + 1 := by rw [IntKind.wrap_i64]; omega
          have hs1 := HSD.out i1
          have hs2 := HSD.out i2
          have HST := hide (bes_step (s := s) (k := k))
          have HSM := hide (bes_same (s := s) (k := k))
          rw [← hi2, ← hi1] at HST HSM
          obtain ⟨a, ha⟩ : ∃ a, s i1 = a := ⟨_, rfl⟩
          obtain ⟨b, hb⟩ : ∃ b, s i2 = b := ⟨_, rfl⟩
          rw [ha] at ca1 hs1 HST HSM
          rw [hb] at ca2 hs2 HST HSM
          clear hi1 hi2 hat ha hb
          by_cases hab : a = b
          · have t1 : ((a : Int) != (b : Int)) = false := by simp [hab]
            have t2 : (a != b) = false := by simp [hab]
            have t3 : ((a : Int) == (b : Int)) = true := by simp [hab]
            have t4 : (a == b) = true := by simp [hab]
            have HAB := hide hab
            clear hab
            go_wp2_with fail
            go_roundw
            case rel => exact ⟨k + 1, by omega, by go_num, hide (by rw [← HSM.out HAB.out]; exact HM.out), HAT, HE⟩
            case measure => simp [intOf]; omega
          · have t1 : ((a : Int) != (b : Int)) = true := by simp [hab]; omega
            have t2 : (a != b) = true := by simp [hab]
            have t3 : ((a : Int) == (b : Int)) = false := by simp; omega
            have t4 : (a == b) = false := by simp [hab]
            have z1 : (a : Int) < (n : Int) := by omega
            have z2 : (b : Int) < (n : Int) := by omega
            have HAB := hide hab
            clear hab
            obtain ⟨g1, m1, m2, m3, m4, m5, m6, m7⟩ := HM.out.at_ hs1 hs2
            have HM6 := hide (m7 true)
            obtain ⟨g2, p1, p2, p3, p4, p5, p6, p7⟩ := HM6.out.at_ hs2 hs1
            have HM7 := hide (p7 true)
            have HA7 := hide (ownsRow_setCell_below (ownsRow_setCell_below HAT.out (a := ⟨g1, b, none⟩) m5 (.bool true)) (a := ⟨g2, a, none⟩) p5 (.bool true))
            have HE7 := hide ((HE.out.setk m4 (.bool true) (o := b) (s := none)).setk p4 (.bool true) (o := a) (s := none))
            clear m7 p7
            obtain ⟨u2, p2⟩ : ∃ u2, (wr.setCell ⟨g1, b, none⟩ (.bool true)).cell? ⟨g2, a, none⟩ = some u2 := ⟨_, p2⟩
            go_wp2_with fail
            rw [HST.out HAB.out] at HM7
            obtain ⟨w8, hw8⟩ : ∃ w8, w8 = (wr.setCell ⟨g1, b, none⟩ (.bool true)).setCell ⟨g2, a, none⟩ (.bool true) := ⟨_, rfl⟩
            rw [← hw8] at HM7 HA7 HE7 ⊢
            clear hw8
            go_roundw
            case rel => exact ⟨k + 1, by omega, by go_num, HM7, HA7, HE7⟩
            case measure => simp [intOf]; omega
        · obtain rfl : k = E.length := by omega
          go_wp2_with fail
          go_ret
          exact ⟨hd, _, U, rfl, HM.out.mono HW2.out.size (Nat.le_refl _), HW2.out.trans HE.out⟩
end Go.Proofs.Ytkgbilbicdiadaa
