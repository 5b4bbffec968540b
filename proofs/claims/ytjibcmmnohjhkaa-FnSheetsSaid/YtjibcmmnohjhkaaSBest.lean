/- The walk of the reference's table of best values. No condition but small numbers. -/
import Derived.Test.YtjibcmmnohjhkaaBest
import Derived.Test.YtjibcmmnohjhkaaOwn
set_option linter.unusedSimpArgs false
set_option linter.unusedVariables false
namespace Go.Proofs.Ytjibcmmnohjhkaa
open Go.RowKit

/-- A row of k headers that grows, each header's row of n zeros in a block of its own. -/
def Hdr (w : World) (B : Nat) (v : Value) (k n : Nat) (Th Te : TypeId) : Prop :=
  ∃ G : Nat → Nat, w.ownsRow B Th 1 v k ((List.range k).map fun i => Value.slice (some ⟨G i, 0, none⟩) n n) ∧ (∀ i, i < k → B ≤ G i ∧ v.ownBlock ≠ some (G i) ∧ Blk w (G i) Te (List.replicate n (Value.int .i64 0))) ∧ ∀ i j, i < k → j < k → G i = G j → i = j
theorem Hdr.step {w w2 w4 : World} {B k n g : Nat} {v v' : Value} {Th Te : TypeId} {G : Nat → Nat} (h1 : w.ownsRow B Th 1 v k ((List.range k).map fun i => Value.slice (some ⟨G i, 0, none⟩) n n)) (h2 : ∀ i, i < k → B ≤ G i ∧ v.ownBlock ≠ some (G i) ∧ Blk w (G i) Te (List.replicate n (Value.int .i64 0))) (h3 : ∀ i j, i < k → j < k → G i = G j → i = j) (hE : Ext w w2) (hg : g = w.heap.size) (hB : B ≤ w.heap.size) (hb : Blk w2 g Te (List.replicate n (Value.int .i64 0)))
    (hgr : (w2.alloc (.cells #[Value.slice (some ⟨g, 0, none⟩) n n] Th)).grownBy w4 v.ownBlock) (hv : v'.ownBlock = v.ownBlock ∨ v'.ownBlock = some (w2.alloc (.cells #[Value.slice (some ⟨g, 0, none⟩) n n] Th)).heap.size)
    (how : w4.ownsRow B Th 1 v' (k + 1) ((List.range k).map (fun i => Value.slice (some ⟨G i, 0, none⟩) n n) ++ [Value.slice (some ⟨g, 0, none⟩) n n])) : Hdr w4 B v' (k + 1) n Th Te := by
  have hlt : ∀ i, i < k → G i < w.heap.size := fun i hi => (h2 i hi).2.2.lt
  have hgl := hb.lt
  have hsz := hE.size
  have hne : ∀ x, x < w2.heap.size → v.ownBlock ≠ some x → v'.ownBlock ≠ some x := by
    intro x hx hn e
    rcases hv with e' | e'
    · rw [e'] at e
      exact hn e
    · rw [e'] at e
      injection e with e
      simp at e
      omega
  have hvg : v.ownBlock ≠ some g := by
    intro e
    have := (h1.lt g e).2
    omega
  refine ⟨fun i => if i = k then g else G i, ?_, fun i hi => ?_, fun i j hi hj e => ?_⟩
  · have := how
    have e : (List.range (k + 1)).map (fun i => Value.slice (some ⟨if i = k then g else G i, 0, none⟩) n n) = (List.range k).map (fun i => Value.slice (some ⟨G i, 0, none⟩) n n) ++ [Value.slice (some ⟨g, 0, none⟩) n n] := by
      rw [List.range_succ, List.map_append]
      congr 1
      · apply List.map_congr_left
        intro i hi
        have := List.mem_range.1 hi
        rw [if_neg (by omega)]
      · simp
    rw [e]
    exact this
  · by_cases hik : i = k
    · subst hik
      simp only [if_true]
      exact ⟨by omega, hne g hgl hvg, (hb.ext ((Ext.refl _).alloc _)).grown hgr hvg⟩
    · simp only [hik, if_false]
      obtain ⟨e1, e2, e3⟩ := h2 i (by omega)
      exact ⟨e1, hne _ (Nat.lt_of_lt_of_le e3.lt hsz) e2, ((e3.ext hE).ext ((Ext.refl _).alloc _)).grown hgr e2⟩
  · have a1 := hlt i
    have a2 := hlt j
    have a3 := h3 i j
    by_cases hik : i = k <;> by_cases hjk : j = k <;> simp [hik, hjk] at e <;> omega
theorem Hdr.mat {w : World} {B k n : Nat} {v : Value} {Th Te : TypeId} (h : Hdr w B v k n Th Te) (hk : 0 < k) : ∃ hd c, v = .slice (some ⟨hd, 0, none⟩) k c ∧ k ≤ c ∧ Mat w B hd k k n Th Te (fun _ _ => 0) := by
  obtain ⟨G, h1, h2, h3⟩ := h
  obtain ⟨A, c, rfl, hc, h4, h5⟩ := own_slice h1
  cases A with
  | none => exact absurd (h4 rfl) (by omega)
  | some a =>
    obtain ⟨g, rfl, h6, h7, h8⟩ := h5 a rfl
    obtain ⟨cs, b1, b2, b3, b4⟩ := Blk.of_own h1
    refine ⟨g, c, rfl, hc, G, cs, h6, b1, by omega, Nat.le_refl _, fun i hi => ?_, h3⟩
    obtain ⟨e1, e2, e3⟩ := h2 i hi
    refine ⟨?_, e1, fun e => e2 (by rw [h8, e]), ?_⟩
    · have : (cs.take (k * 1))[i]? = some (Value.slice (some ⟨G i, 0, none⟩) n n) := by rw [b2]; simp [hi]
      rw [List.getElem?_take_of_lt (by omega)] at this
      exact this
    · rw [← rowOf_zero]
      exact e3
theorem Hdr.ext {w w' : World} {B k n : Nat} {v : Value} {Th Te : TypeId} (h : Hdr w B v k n Th Te) (hE : Ext w w') (how : ∀ xs, w.ownsRow B Th 1 v k xs → w'.ownsRow B Th 1 v k xs) : Hdr w' B v k n Th Te := by
  obtain ⟨G, h1, h2, h3⟩ := h
  exact ⟨G, how _ h1, fun i hi => ⟨(h2 i hi).1, (h2 i hi).2.1, (h2 i hi).2.2.ext hE⟩, h3⟩
set_option maxRecDepth 100000 in
set_option maxHeartbeats 4000000 in
theorem l20Best_any (W H : Nat) (l : List P2) (A : Option Addr) (c : Nat) (vs : List Int) (Av : Option Addr) (cv : Nat) (M : Int) (w : World) (hW : 1 ≤ W) (hW' : W ≤ 40) (hH : 1 ≤ H) (hH' : H ≤ 40)
    (hl : l.length ≤ 6) (hgood : goodPieces l vs M) (hM : 0 ≤ M) (hM' : M ≤ 1600) (hr : R2 w A l) (hrv : RI w Av vs) :
    Calls Try.prog 61 #[.agg #[.int .i64 W, .int .i64 H], .slice A l.length c, .slice Av vs.length cv] w fun e w' => e = .returned (.int .i64 (bv l vs W H)) ∧ Ext w w' := by
  obtain ⟨i0, hi, hz0, hz1, hz2⟩ := info_parts row_info
  obtain ⟨j0, hj, hy0, hy1, hy2⟩ := info_parts int_info
  have HR := hide hr
  have HV := hide hrv
  have HG := hide hgood
  clear hr hrv hgood
  
  go_enter Try.func61, Try.ntmps61
  go_wp2_with fail
  obtain ⟨w0, hw⟩ : ∃ w0, w0 = w.alloc (Obj.cells #[Value.int IntKind.i64 W, Value.int IntKind.i64 H] 25) := ⟨_, rfl⟩
  have HT : Hid (Tr [(w.heap.size, [.int .i64 W, .int .i64 H])] w w0) := hide (by rw [hw]; exact ⟨by simp [Bx, CellsAt, go_sem, *], by repeat (first | exact kE | exact Ext.refl _ | apply Ext.alloc | apply Ext.drewN | apply Ext.drew | apply Ext.set0 | apply Ext.set1 | apply Ext.set2 | apply Ext.set3 | (refine Ext.setk ?_ (by omega) _) | (apply Ext.snoc; assumption))⟩)
  have hsz : w.heap.size + 1 ≤ w0.heap.size ∧ w0.heap.size ≤ w.heap.size + 1 := by rw [hw]; simp
  have ho : (w0.alloc (.cells #[] 56)).ownsRow (w.heap.size + 1) 56 1 (.slice (some ⟨w.heap.size + 1, 0, none⟩) 0 0) 0 [] := by
    have := World.ownsRow_lit (base := w.heap.size + 1) (e := 56) (size := 1) w0 #[] 0 hsz.1 (Nat.zero_le _) rfl
    rw [hw] at this ⊢
    simpa only [World.size_alloc] using this
  rw [← hw]
  have HB := hide hsz
  have HO := hide ho
  have H0 := hide HT.out.2
  have HTZ := HT
  clear hw hsz ho
  go_loopw [7, 8] (fun v i wr => ∃ k : Nat, k ≤ H + 1 ∧ i = .int .i64 k ∧ Hdr wr (w.heap.size + 1) v k (W + 1) 56 3 ∧ Ext w0 wr) (fun _ i _ => H + 1 - (intOf i).toNat)
  case atStart => exact ⟨0, Nat.zero_le _, rfl, ⟨fun _ => 0, HO.out, fun i hi => absurd hi (Nat.not_lt_zero i), fun i j hi => absurd hi (Nat.not_lt_zero i)⟩, (Ext.refl _).alloc _⟩
  case round =>
    obtain ⟨k, hk, rfl, hh, hE⟩ := hrel
    have HH := hide hh
    have HE := hide hE
    have hsz : w.heap.size + 1 ≤ wr.heap.size := Nat.le_trans HB.out.1 hE.size
    clear hh
    have HT := hide (HT.out.ext hE); clear hE; have kT := HT.out; simp only [Tr, Bx, CellsAt, Nat.reduceAdd, Nat.zero_add, and_true] at kT; obtain ⟨⟨kz0, kf0, kc0_0, kc0_1⟩, kE⟩ := kT
    by_cases hlt : k < H + 1
    · obtain ⟨G, h1, h2, h3⟩ := HH.out
      have H1 := hide h1
      have H2 := hide h2
      have H3 := hide h3
      clear h1 h2 h3
      go_wp2_with (first | (at_make; refine wpList_make_full _ rfl _ _ 56 rfl (w.heap.size + 1) 3 j0 (.int .i64 0) 1 Try.underlying56 hj hy0 hy1 .i64 .i64 (W + 1) (W + 1) (W + 1) rfl rfl (by omega) (by omega) (by rw [hy2]; omega) (by unfold maxLen; omega) (by omega) ?_; intro w2 hown hgrow; have hX2 := grown_ext hgrow; have HX2 := hide hX2; have hs2 := hX2.size; clear hX2) | (at_builtin; refine wpList_append_own_at _ rfl _ _ 88 rfl (w.heap.size + 1) 56 i0 (.slice none 0 0) 1 24 Try.underlying88 hi hz0 hz1 hz2 rfl (by decide) u7 _ _ rfl (own_ext H1.out (HX2.out.alloc _)) ⟨w2.heap.size, 0, none⟩ 1 1 [Value.slice (some ⟨wr.heap.size, 0, none⟩) (W + 1) (W + 1)] rfl rfl (news_new _ #[Value.slice (some ⟨wr.heap.size, 0, none⟩) (W + 1) (W + 1)] _) (by intro u hu; simp at hu; subst hu; rfl) (by unfold maxLen; omega) (by omega) (by simp; omega) ?_; intro v' w4 hown4 hgrow4 hnil hblk))
      rw [made_zeros] at hown
      have R := Hdr.step H1.out H2.out H3.out HX2.out rfl hsz (Blk.of_full hown) hgrow4 hblk hown4
      have E4 := Ext.grown ((HE.out.trans HX2.out).alloc _) hgrow4 (own_base H1.out HB.out.2)
      clear hown hgrow hown4 hgrow4 hnil hblk
      go_roundw
      case rel => exact ⟨k + 1, by omega, by go_num, R, E4⟩
      case measure => simp [intOf]; omega
    · obtain rfl : k = H + 1 := by omega
      obtain ⟨hd, ch, rfl, hch, hmat⟩ := HH.out.mat (by omega)
      have HM := hide hmat
      clear hmat
      have HE1 := HE
      obtain ⟨w1, rfl⟩ : ∃ w1 : World, w1 = wr := ⟨_, rfl⟩
      go_wp2_with fail
      clear kz0 kf0 kc0_0 kc0_1 kE
      go_loopw [9] (fun i wr => ∃ b : Nat, 1 ≤ b ∧ b ≤ H + 1 ∧ i = .int .i64 b ∧ (∃ f, Mat wr (w.heap.size + 1) hd (H + 1) (H + 1) (W + 1) 56 3 f ∧ ∀ i j, 1 ≤ i → i < b → 1 ≤ j → j ≤ W → f i j = bv l vs j i) ∧ Ext w0 wr) (fun i _ => H + 1 - (intOf i).toNat)
      case atStart => exact ⟨1, Nat.le_refl _, by omega, rfl, ⟨_, HM.out, fun i j h1 h2 => absurd h1 (by omega)⟩, HE1.out⟩
      case round =>
        obtain ⟨b, hb0, hb, rfl, ⟨f, hmat, hf⟩, hE⟩ := hrel
        have HM := hide hmat
        have HF := hide hf
        have HE := hide hE
        have hsz : w.heap.size + 1 ≤ wr.heap.size := Nat.le_trans HB.out.1 hE.size
        clear hmat hf
        have HT := hide ((show Tr [(w.heap.size, [.int .i64 W, .int .i64 H])] w w0 from ⟨HTZ.out.1, HTZ.out.2⟩).ext hE); clear hE; have kT := HT.out; simp only [Tr, Bx, CellsAt, Nat.reduceAdd, Nat.zero_add, and_true] at kT; obtain ⟨⟨kz0, kf0, kc0_0, kc0_1⟩, kE⟩ := kT
        by_cases hlt : b < H + 1
        · have hbH : (b : Int) ≤ H := by omega
          go_wp2_with fail
          clear kz0 kf0 kc0_0 kc0_1 kE
          go_loopw [10] (fun i wi => ∃ a : Nat, 1 ≤ a ∧ a ≤ W + 1 ∧ i = .int .i64 a ∧ (∃ f, Mat wi (w.heap.size + 1) hd (H + 1) (H + 1) (W + 1) 56 3 f ∧ (∀ i j, 1 ≤ i → i < b → 1 ≤ j → j ≤ W → f i j = bv l vs j i) ∧ ∀ j, 1 ≤ j → j < a → f b j = bv l vs j b) ∧ Ext w0 wi) (fun i _ => W + 1 - (intOf i).toNat)
          case atStart => exact ⟨1, Nat.le_refl _, by omega, rfl, ⟨_, HM.out, HF.out, fun j h1 h2 => absurd h1 (by omega)⟩, HE.out⟩
          case round =>
            obtain ⟨a, ha0, ha, rfl, ⟨f, hmat, hf, hf'⟩, hE⟩ := hrel
            have HM := hide hmat
            have HF1 := hide hf
            have HF2 := hide hf'
            have HE := hide hE
            have hsz : w.heap.size + 1 ≤ wr.heap.size := Nat.le_trans HB.out.1 hE.size
            clear hmat hf hf'
            have HT := hide ((show Tr [(w.heap.size, [.int .i64 W, .int .i64 H])] w w0 from ⟨HTZ.out.1, HTZ.out.2⟩).ext hE); clear hE; have kT := HT.out; simp only [Tr, Bx, CellsAt, Nat.reduceAdd, Nat.zero_add, and_true] at kT; obtain ⟨⟨kz0, kf0, kc0_0, kc0_1⟩, kE⟩ := kT
            obtain ⟨wb, rfl⟩ : ∃ wb : World, wb = wr := ⟨_, rfl⟩
            by_cases hlta : a < W + 1
            · have haW : (a : Int) ≤ W := by omega
              go_wp2_with fail
              clear kz0 kf0 kc0_0 kc0_1 kE
              go_loopw [11, 12] (fun n i wi => ∃ k : Nat, k ≤ l.length ∧ i = .int .i64 k ∧ n = .int .i64 (piecesTo l vs a b k) ∧ Ext wb wi) (fun _ i _ => l.length - (intOf i).toNat)
              case atStart => exact ⟨0, Nat.zero_le _, rfl, rfl, Ext.refl _⟩
              case round =>
                obtain ⟨k, hk, rfl, rfl, hE⟩ := hrel
                by_cases hlk : k < l.length
                · have hlv : k < vs.length := by have := HG.out.1; omega
                  obtain ⟨b1, off1, rfl, hb1, e0, e1⟩ := R2.at_ (HR.out.ext ((H0.out.trans HE.out).trans hE)) hlk
                  obtain ⟨b2, off2, rfl, hb2, e2⟩ := RI.at_ (HV.out.ext ((H0.out.trans HE.out).trans hE)) hlv
                  have HS := hide (piecesTo_step hlk hlv (a : Int) (b : Int))
                  have HQ := hide hE
                  by_cases f1 : l[k].1 ≤ (a : Int)
                  · by_cases f2 : l[k].2 ≤ (b : Int)
                    · go_wp2_with fail
                      go_roundw
                      case rel => exact ⟨k + 1, by omega, by go_num, by rw [HS.out, if_pos (show l[k].1 ≤ (a : Int) ∧ l[k].2 ≤ (b : Int) from ⟨f1, f2⟩), ← max_if], by have hE := HQ.out; repeat (first | exact kE | exact Ext.refl _ | apply Ext.alloc | apply Ext.drewN | apply Ext.drew | apply Ext.set0 | apply Ext.set1 | apply Ext.set2 | apply Ext.set3 | (refine Ext.setk ?_ (by omega) _) | (apply Ext.snoc; assumption))⟩
                      case measure => simp [intOf]; omega
                    · go_wp2_with fail
                      go_roundw
                      case rel => exact ⟨k + 1, by omega, by go_num, by rw [HS.out, if_neg (fun h => f2 h.2)], by have hE := HQ.out; repeat (first | exact kE | exact Ext.refl _ | apply Ext.alloc | apply Ext.drewN | apply Ext.drew | apply Ext.set0 | apply Ext.set1 | apply Ext.set2 | apply Ext.set3 | (refine Ext.setk ?_ (by omega) _) | (apply Ext.snoc; assumption))⟩
                      case measure => simp [intOf]; omega
                  · go_wp2_with fail
                    go_roundw
                    case rel => exact ⟨k + 1, by omega, by go_num, by rw [HS.out, if_neg (fun h => f1 h.1)], by have hE := HQ.out; repeat (first | exact kE | exact Ext.refl _ | apply Ext.alloc | apply Ext.drewN | apply Ext.drew | apply Ext.set0 | apply Ext.set1 | apply Ext.set2 | apply Ext.set3 | (refine Ext.setk ?_ (by omega) _) | (apply Ext.snoc; assumption))⟩
                    case measure => simp [intOf]; omega
                · obtain rfl : k = l.length := by omega
                  have HP := hide hE
                  have HM5 := hide (HM.out.ext hE)
                  have HE5 := hide (HE.out.trans hE)
                  clear hE
                  obtain ⟨wp, rfl⟩ : ∃ wp : World, wp = wr := ⟨_, rfl⟩
                  go_wp2_with fail
                  go_loopw [11, 13] (fun n i wi => ∃ k : Nat, k ≤ a / 2 ∧ i = .int .i64 (k + 1) ∧ n = .int .i64 (bvW l vs a b k) ∧ Ext wp wi) (fun _ i _ => a / 2 + 1 - (intOf i).toNat)
                  case atStart => exact ⟨0, Nat.zero_le _, rfl, rfl, Ext.refl _⟩
                  case round =>
                    obtain ⟨k, hk, rfl, rfl, hE⟩ := hrel
                    have HQ := hide hE
                    by_cases hk2 : 2 * (k + 1) ≤ a
                    · obtain ⟨g1, m1, m2, _, m4, m5, _⟩ := (HM5.out.ext hE).at_ (i := b) (j := k + 1) (by omega) (by omega)
                      obtain ⟨g2, n1, n2, _, n4, n5, _⟩ := (HM5.out.ext hE).at_ (i := b) (j := a - (k + 1)) (by omega) (by omega)
                      rw [HF2.out (k + 1) (by omega) (by omega)] at m2
                      rw [HF2.out (a - (k + 1)) (by omega) (by omega)] at n2
                      have e12 : g2 = g1 := by
                        rw [m1] at n1
                        injection n1 with n1
                        injection n1 with n1 _ _
                        injection n1 with n1
                        injection n1 with n1 _ _
                        exact n1.symm
                      subst e12
                      clear n1
                      have B1 := bv_small HG.out hM hM' (a := k + 1) (b := b) (by omega) (by omega)
                      have B2 := bv_small HG.out hM hM' (a := a - (k + 1)) (b := b) (by omega) (by omega)
                      have HS := hide (bvW_succ l vs a b k)
                      have q1 : IntKind.i64.wrap ((a : Int) - ((k : Int) + 1)) = (a : Int) - ((k : Int) + 1) := IntWalk.i64_in _ (by omega)
                      have q2 : (0 : Int) ≤ (a : Int) - ((k : Int) + 1) := by omega
                      have q3 : (a : Int) - ((k : Int) + 1) < (W : Int) + 1 := by omega
                      have q4 : ((a : Int) - ((k : Int) + 1)).toNat = a - (k + 1) := by omega
                      have q5 : ((k : Int) + 1).toNat = k + 1 := by omega
                      have q6 : (k : Int) + 1 < (W : Int) + 1 := by omega
                      have q7 : (0 : Int) ≤ (k : Int) + 1 := by omega
                      have q8 : (b : Int) < (H : Int) + 1 := by omega
                      go_wp2_with fail
                      go_quiet (fail)
                      clear q1
                      go_wp2
                      go_roundw
                      case rel => exact ⟨k + 1, by omega, by go_num, by rw [HS.out, ← max_if], by have hE := HQ.out; repeat (first | exact kE | exact Ext.refl _ | apply Ext.alloc | apply Ext.drewN | apply Ext.drew | apply Ext.set0 | apply Ext.set1 | apply Ext.set2 | apply Ext.set3 | (refine Ext.setk ?_ (by omega) _) | (apply Ext.snoc; assumption))⟩
                      case measure => simp [intOf]; omega
                    · obtain rfl : k = a / 2 := by omega
                      have HM6 := hide (HM5.out.ext hE)
                      have HE6 := hide (HE5.out.trans hE)
                      clear hE HQ
                      obtain ⟨wq, rfl⟩ : ∃ wq : World, wq = wr := ⟨_, rfl⟩
                      go_wp2_with fail
                      go_loopw [11, 14] (fun n i wi => ∃ k : Nat, k ≤ b / 2 ∧ i = .int .i64 (k + 1) ∧ n = .int .i64 (bvH l vs a b k) ∧ Ext wq wi) (fun _ i _ => b / 2 + 1 - (intOf i).toNat)
                      case atStart => exact ⟨0, Nat.zero_le _, rfl, rfl, Ext.refl _⟩
                      case round =>
                        obtain ⟨k, hk, rfl, rfl, hE⟩ := hrel
                        have HQ := hide hE
                        by_cases hk2 : 2 * (k + 1) ≤ b
                        · obtain ⟨g1, m1, m2, _, m4, m5, _⟩ := (HM6.out.ext hE).at_ (i := k + 1) (j := a) (by omega) (by omega)
                          obtain ⟨g2, n1, n2, _, n4, n5, _⟩ := (HM6.out.ext hE).at_ (i := b - (k + 1)) (j := a) (by omega) (by omega)
                          rw [HF1.out (k + 1) a (by omega) (by omega) (by omega) (by omega)] at m2
                          rw [HF1.out (b - (k + 1)) a (by omega) (by omega) (by omega) (by omega)] at n2
                          have B1 := bv_small HG.out hM hM' (a := a) (b := k + 1) (by omega) (by omega)
                          have B2 := bv_small HG.out hM hM' (a := a) (b := b - (k + 1)) (by omega) (by omega)
                          have HS := hide (bvH_succ l vs a b k)
                          have q1 : IntKind.i64.wrap ((b : Int) - ((k : Int) + 1)) = (b : Int) - ((k : Int) + 1) := IntWalk.i64_in _ (by omega)
                          have q2 : (0 : Int) ≤ (b : Int) - ((k : Int) + 1) := by omega
                          have q3 : (b : Int) - ((k : Int) + 1) < (H : Int) + 1 := by omega
                          have q4 : ((b : Int) - ((k : Int) + 1)).toNat = b - (k + 1) := by omega
                          have q5 : ((k : Int) + 1).toNat = k + 1 := by omega
                          have q6 : (k : Int) + 1 < (H : Int) + 1 := by omega
                          have q7 : (0 : Int) ≤ (k : Int) + 1 := by omega
                          have q8 : (a : Int) < (W : Int) + 1 := by omega
                          go_wp2_with fail
                          go_quiet (fail)
                          clear q1
                          go_wp2
                          go_roundw
                          case rel => exact ⟨k + 1, by omega, by go_num, by rw [HS.out, ← max_if], by have hE := HQ.out; repeat (first | exact kE | exact Ext.refl _ | apply Ext.alloc | apply Ext.drewN | apply Ext.drew | apply Ext.set0 | apply Ext.set1 | apply Ext.set2 | apply Ext.set3 | (refine Ext.setk ?_ (by omega) _) | (apply Ext.snoc; assumption))⟩
                          case measure => simp [intOf]; omega
                        · obtain rfl : k = b / 2 := by omega
                          obtain ⟨g1, m1, m2, m3, m4, m5, m6⟩ := (HM6.out.ext hE).at_ (i := b) (j := a) (by omega) (by omega)
                          have HM7 := hide (m6 (bvH l vs a b (b / 2)))
                          have HE7 := hide ((HE6.out.trans hE).set (p := ⟨g1, a, none⟩) (Nat.le_trans HB.out.2 m4) (.int .i64 (bvH l vs a b (b / 2))))
                          clear m6 hE HQ
                          go_wp2_with fail
                          go_roundw
                          case rel =>
                            refine ⟨a + 1, by omega, by omega, by go_num, ⟨_, HM7.out, fun i j h1 h2 h3 h4 => ?_, fun j h1 h2 => ?_⟩, HE7.out⟩
                            · rw [upd_ne _ _ _ _ (.inl (by omega)), HF1.out i j h1 h2 h3 h4]
                            · by_cases e : j = a
                              · subst e
                                rw [upd_same, bv_eq]
                              · rw [upd_ne _ _ _ _ (.inr e), HF2.out j h1 (by omega)]
                          case measure => simp [intOf]; omega
            · obtain rfl : a = W + 1 := by omega
              go_wp2_with fail
              go_roundw
              case rel =>
                refine ⟨b + 1, by omega, by omega, by go_num, ⟨f, HM.out, fun i j h1 h2 h3 h4 => ?_⟩, HE.out⟩
                by_cases e : i = b
                · subst e
                  exact HF2.out j h3 (by omega)
                · exact HF1.out i j h1 (by omega) h3 h4
              case measure => simp [intOf]; omega
        · obtain rfl : b = H + 1 := by omega
          obtain ⟨g1, m1, m2, m3, m4, m5, m6⟩ := HM.out.at_ (i := H) (j := W) (by omega) (by omega)
          rw [HF.out H W (by omega) (by omega) (by omega) (Nat.le_refl _)] at m2
          clear m6
          go_wp2_with fail
          go_quiet (fail)
          go_wp2
          go_ret
          exact ⟨rfl, by repeat (first | exact kE | exact Ext.refl _ | apply Ext.alloc | apply Ext.drewN | apply Ext.drew | apply Ext.set0 | apply Ext.set1 | apply Ext.set2 | apply Ext.set3 | (refine Ext.setk ?_ (by omega) _) | (apply Ext.snoc; assumption))⟩
end Go.Proofs.Ytjibcmmnohjhkaa
