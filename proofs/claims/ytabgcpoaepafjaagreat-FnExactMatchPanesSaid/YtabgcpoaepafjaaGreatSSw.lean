/- The walks of the law's small functions over lists of lists of nodes. No condition but that the lists are not too long. -/
import Derived.Test.YtabgcpoaepafjaaGreatSS
import Derived.Test.YtabgcpoaepafjaaGreatMarkWin
set_option linter.unusedSimpArgs false
set_option linter.unusedVariables false
namespace Go.Proofs.YtabgcpoaepafjaaGreat
open Go.RowKit

/-- The elements of all rows. -/
def totalSS (L : List (List P2)) : Nat := (L.map List.length).sum
theorem totalSS_take {L : List (List P2)} {k : Nat} (hk : k < L.length) : totalSS (L.take (k + 1)) = totalSS (L.take k) + L[k].length := by
  unfold totalSS
  rw [List.take_succ_eq_append_getElem hk, List.map_append, List.sum_append]
  simp
theorem totalSS_le {L : List (List P2)} (k : Nat) : totalSS (L.take k) ≤ totalSS L := by
  have e : totalSS L = totalSS (L.take k) + totalSS (L.drop k) := by
    unfold totalSS
    rw [← List.sum_append, ← List.map_append, List.take_append_drop]
  omega
theorem totalSS_row {L : List (List P2)} {k : Nat} (hk : k < L.length) : L[k].length ≤ totalSS L := by
  have h1 := totalSS_take hk
  have h2 := totalSS_le (L := L) (k + 1)
  omega
def lnS (L : List (List P2)) (i : Nat) : Nat := (L.getD i []).length
theorem lnS_eq {L : List (List P2)} {i : Nat} (hi : i < L.length) : lnS L i = L[i].length := by unfold lnS; simp [hi]
def hdrS (G : Nat → Nat) (L : List (List P2)) (n : Nat) : List Value := (List.range n).map fun i => Value.slice (some ⟨G i, 0, none⟩) (lnS L i) (lnS L i)
theorem hdrS_length (G : Nat → Nat) (L : List (List P2)) (n : Nat) : (hdrS G L n).length = n := by simp [hdrS]
theorem hdrS_get {G : Nat → Nat} {L : List (List P2)} {n i : Nat} (hi : i < n) : (hdrS G L n)[i]? = some (Value.slice (some ⟨G i, 0, none⟩) (lnS L i) (lnS L i)) := by simp [hdrS, hi]
theorem hdrS_succ (G : Nat → Nat) (L : List (List P2)) (n : Nat) : hdrS G L (n + 1) = hdrS G L n ++ [Value.slice (some ⟨G n, 0, none⟩) (lnS L n) (lnS L n)] := by simp [hdrS, List.range_succ]
theorem hdrS_congr {G G' : Nat → Nat} {L : List (List P2)} {n : Nat} (h : ∀ i, i < n → G i = G' i) : hdrS G L n = hdrS G' L n := by
  unfold hdrS
  apply List.map_congr_left
  intro i hi
  rw [h i (List.mem_range.1 hi)]
/-- The first k rows of L in blocks of their own (contents X), not in block g; n headers in block g. -/
structure SSO (w : World) (base g n k : Nat) (L : List (List P2)) (G : Nat → Nat) (xs : List Value) (X : Nat → List Value) : Prop where
  hd : w.ownsRow base 24 1 (.slice (some ⟨g, 0, none⟩) n n) n xs
  tk : xs.take k = hdrS G L k
  row : ∀ i, i < k → G i ≠ g ∧ w.ownsRow base 84 2 (.slice (some ⟨G i, 0, none⟩) (lnS L i) (lnS L i)) (lnS L i) (X i)
  inj : ∀ i j, i < k → j < k → G i = G j → i = j
theorem SSO.ext {w w' : World} {base g n k : Nat} {L : List (List P2)} {G : Nat → Nat} {xs : List Value} {X : Nat → List Value} (h : SSO w base g n k L G xs X) (hE : Ext w w') : SSO w' base g n k L G xs X :=
  ⟨own_ext h.hd hE, h.tk, fun i hi => ⟨(h.row i hi).1, own_ext (h.row i hi).2 hE⟩, h.inj⟩
theorem SSO.kept {w w' : World} {base g n k : Nat} {L : List (List P2)} {G : Nat → Nat} {xs : List Value} {X : Nat → List Value} {row : Option Nat} (h : SSO w base g n k L G xs X) (hg : w.grownBy w' row) (hr : ∀ q, row = some q → q < base) : SSO w' base g n k L G xs X :=
  ⟨h.hd.kept hg (.inr fun e => by have := (h.hd.lt g rfl).1; have := hr g e.symm; omega), h.tk, fun i hi => ⟨(h.row i hi).1, (h.row i hi).2.kept hg (.inr fun e => by have := ((h.row i hi).2.lt (G i) rfl).1; have := hr (G i) e.symm; omega)⟩, h.inj⟩
theorem SSO.step {w w1 : World} {base g n k q : Nat} {L : List (List P2)} {G : Nat → Nat} {xs ys : List Value} {X : Nat → List Value} (h : SSO w base g n k L G xs X) (hE : Ext w w1) (hk : k < n)
    (ho : w1.ownsRow w.heap.size 84 2 (.slice (some ⟨q, 0, none⟩) (lnS L k) (lnS L k)) (lnS L k) ys) (hb : base ≤ w.heap.size) :
    SSO (w1.setCell ⟨g, k, none⟩ (.slice (some ⟨q, 0, none⟩) (lnS L k) (lnS L k))) base g n (k + 1) L (fun i => if i = k then q else G i) (xs.set k (.slice (some ⟨q, 0, none⟩) (lnS L k) (lnS L k))) (fun i => if i = k then ys else X i) := by
  have hg := (h.hd.lt g rfl).2
  have hq := (ho.lt q rfl).1
  have hne : ∀ i, i < k → G i < w.heap.size := fun i hi => ((h.row i hi).2.lt (G i) rfl).2
  have hl := h.hd.1
  have hs := (own_ext h.hd hE).stored k (.slice (some ⟨q, 0, none⟩) (lnS L k) (lnS L k))
  refine ⟨hs.1, ?_, fun i hi => ?_, fun i j hi hj e => ?_⟩
  · rw [hdrS_succ, hdrS_congr (G' := G) (fun i hi => by simp [show i ≠ k by omega])]
    rw [← h.tk]
    apply List.ext_getElem?
    intro j
    by_cases h1 : j < k
    · rw [List.getElem?_take_of_lt (by omega), List.getElem?_set_ne (by omega), List.getElem?_append_left (by simp; omega), List.getElem?_take_of_lt h1]
    · by_cases h2 : j = k
      · subst h2
        rw [List.getElem?_take_of_lt (by omega), List.getElem?_set_self (by omega), List.getElem?_append_right (by simp; omega)]
        simp [Nat.min_eq_left (show j ≤ xs.length by omega)]
      · rw [List.getElem?_eq_none (by simp; omega), List.getElem?_eq_none (by simp; omega)]
  · by_cases e : i = k
    · subst e
      simp only [if_true]
      exact ⟨by omega, (own_mono ho hb).kept hs.2 (.inr fun e => by have e : some q = some g := e; injection e; omega)⟩
    · simp only [e, if_false]
      have hr := h.row i (by omega)
      exact ⟨hr.1, (own_ext hr.2 hE).kept hs.2 (.inr fun e => hr.1 (by have e : some (G i) = some g := e; injection e))⟩
  · have a1 := hne i
    have a2 := hne j
    have a3 := h.inj i j
    by_cases h1 : i = k <;> by_cases h2 : j = k <;> simp [h1, h2] at e <;> omega
theorem SSO.rss {w : World} {base g n : Nat} {L : List (List P2)} {G : Nat → Nat} {xs : List Value} {X : Nat → List Value} (h : SSO w base g n n L G xs X) (hn : n = L.length) (hX : ∀ i (hi : i < L.length), X i = enc2 L[i]) : RSS w (some ⟨g, 0, none⟩) L := by
  subst hn
  refine ⟨xs, Rds.of_own h.hd, fun i hi => ?_⟩
  have ht := h.tk
  rw [List.take_of_length_le (by rw [h.hd.1]; omega)] at ht
  have hr := (h.row i hi).2
  rw [hX i hi] at hr
  have e := lnS_eq hi
  obtain ⟨_, _, e1, h1, _⟩ := own_slice hr
  have hm : lnS L i ≤ maxLen := by
    rcases hr.2 with ⟨q, _⟩ | ⟨_, cap, _, q, _, _, _, hc, _⟩
    · cases q
    · injection q with _ _ q
      omega
  refine ⟨some ⟨G i, 0, none⟩, lnS L i, ?_, by omega, hm, ?_⟩
  · rw [ht, hdrS_get hi, e]
  · rw [e] at hr
    exact Rds.of_own hr
set_option maxRecDepth 20000 in
set_option maxHeartbeats 1000000 in
theorem szNodeSS_any (L : List (List P2)) (A : Option Addr) (c : Nat) (left : Int) (w : World) (hl : L.length ≤ maxLen) (h0 : 0 ≤ left) (h1 : left ≤ 1048576) (hr : RSS w A L) :
    Calls Tryz.prog 30 #[.slice A L.length c, .int .i64 left] w fun e w' => ∃ r, e = .returned (.int .i64 r) ∧ (0 ≤ r → (L.length : Int) + totalSS L ≤ left) ∧ Ext w w' := by
  unfold maxLen at hl
  have HR := hide hr
  clear hr
  by_cases h : left < L.length
  · have h2 : left - L.length < 0 := by omega
    go_enter Tryz.func30, Tryz.ntmps30
    go_wp2_with fail
    go_ret
    exact ⟨_, rfl, fun h => absurd h (by omega), Ext.refl _⟩
  · have h2 : ¬ left - L.length < 0 := by omega
    go_enter Tryz.func30, Tryz.ntmps30
    go_wp2_with fail
    go_loopw [1, 5] (fun q i wr => ∃ (k : Nat) (r : Int), k ≤ L.length ∧ i = .int .i64 k ∧ q = .int .i64 r ∧ 0 ≤ r ∧ r + (L.length : Int) + totalSS (L.take k) = left ∧ Ext w wr) (fun _ i _ => L.length - (intOf i).toNat)
    case atStart => exact ⟨0, _, Nat.zero_le _, rfl, rfl, by omega, by simp [totalSS], Ext.refl _⟩
    case round =>
      obtain ⟨k, r, hk, rfl, rfl, hr0, hrl, hE⟩ := hrel
      have HE := hide hE
      by_cases hlt : k < L.length
      · obtain ⟨b, off, rfl, hb, B, c2, hc, hc1, hc2, hr2⟩ := (HR.out.ext hE).at_ hlt
        have ht := totalSS_take hlt
        have hll : L[k].length ≤ maxLen := Nat.le_trans hc1 hc2
        clear hE hr2
        obtain ⟨S, hS⟩ : ∃ S, L[k] = S := ⟨_, rfl⟩
        rw [hS] at hc ht hll hc1
        by_cases h3 : r < S.length
        · have hs : szR S.length r = -1 := by simp [szR, h3]
          go_wp2_with (go_at_call 69; refine (szNodeS_any S B c2 r _ hll hr0 (by omega)).mono ?_; rintro e w2 ⟨rfl, rfl⟩; rw [hs])
          go_ret
          exact ⟨_, rfl, fun h => absurd h (by omega), HE.out⟩
        · have hs : szR S.length r = r - S.length := by unfold szR; rw [if_neg h3]
          have h4 : ¬ r - S.length < 0 := by omega
          go_wp2_with (go_at_call 69; refine (szNodeS_any S B c2 r _ hll hr0 (by omega)).mono ?_; rintro e w2 ⟨rfl, rfl⟩; rw [hs])
          go_roundw
          case rel => exact ⟨k + 1, _, by omega, by go_num, rfl, by omega, by rw [ht]; push_cast; omega, HE.out⟩
          case measure => simp [intOf]; omega
      · have hkl : k = L.length := by omega
        subst hkl
        go_wp2_with fail
        go_ret
        rw [List.take_length] at hrl
        exact ⟨_, rfl, fun _ => by omega, HE.out⟩
theorem nodes_info : (Tryz.prog.info? 24).map (fun i => (i.zero, i.size, i.bytes)) = some (some (.slice none 0 0), 1, 24) := by kernel_rfl
set_option maxRecDepth 20000 in
set_option maxHeartbeats 1000000 in
theorem toNodeSS_any (L : List (List P2)) (A : Option Addr) (c : Nat) (w : World) (hl : (L.length : Int) + totalSS L ≤ 1048576) (hr : RSS w A L) :
    Calls Tryz.prog 33 #[.slice A L.length c] w fun e w' => ∃ g G xs X, e = .returned (.slice (some ⟨g, 0, none⟩) L.length L.length) ∧ SSO w' w.heap.size g L.length L.length L G xs X ∧ (∀ i (hi : i < L.length), X i = enc2 L[i]) ∧ Ext w w' := by
  obtain ⟨i0, hi, hz0, hz1, hz2⟩ := info_parts nodes_info
  have HR := hide hr
  clear hr
  have hl1 : L.length ≤ 1048576 := by omega
  go_enter Tryz.func33, Tryz.ntmps33
  go_wp2_with (at_make; refine wpList_make_full _ rfl _ _ 28 rfl w.heap.size 24 i0 (.slice none 0 0) 1 Tryz.underlying28 hi hz0 hz1 .i64 .i64 L.length L.length L.length rfl rfl rfl rfl (by rw [hz2]; omega) (by unfold maxLen; omega) (Nat.le_refl _) ?_; intro w1 hown hgrow)
  have HE := hide (grown_ext hgrow)
  have HO := hide hown
  clear hgrow hi hz0 hz1 hz2 hown
  go_loopw [4] (fun i wr => ∃ k : Nat, k ≤ L.length ∧ i = .int .i64 k ∧ Hid (∃ G xs X, SSO wr w.heap.size w.heap.size L.length k L G xs X ∧ ∀ i (hi : i < L.length), i < k → X i = enc2 L[i]) ∧ Ext w wr) (fun i _ => L.length - (intOf i).toNat)
  case atStart => exact ⟨0, Nat.zero_le _, rfl, hide ⟨fun _ => 0, _, fun _ => [], ⟨HO.out, by simp [hdrS], fun i hi => absurd hi (by omega), fun i j hi => absurd hi (by omega)⟩, fun i _ hi => absurd hi (by omega)⟩, HE.out⟩
  case round =>
    obtain ⟨k, hk, rfl, HS, hE1⟩ := hrel
    clear HO HE
    by_cases hlt : k < L.length
    · obtain ⟨b, off, rfl, hb, B, c2, hc, hc1, hc2, hr2⟩ := (HR.out.ext hE1).at_ hlt
      have hll := totalSS_row hlt
      have HR2 := hide hr2
      have HE1 := hide hE1
      clear hr2 hE1
      obtain ⟨G, xs, X, hss, hX⟩ := HS.out
      have HSS := hide hss
      have HX := hide hX
      have hxl : xs.length = L.length := by rw [hss.hd.1]; omega
      have hgz : w.heap.size < wr.heap.size := (hss.hd.lt _ rfl).2
      clear hss hX HS
      have HLK := hide (show L[k].length = lnS L k from (lnS_eq hlt).symm)
      have HX2 := hide (show ∀ S, L[k] = S → enc2 S = enc2 L[k] from fun S e => by rw [e])
      obtain ⟨S, hS⟩ : ∃ S, L[k] = S := ⟨_, rfl⟩
      rw [hS] at hc HR2 hll HLK
      have HX3 := hide (HX2.out S hS)
      clear hS HX2 hc1
      go_wp2_with fail
      refine (toNodeS_any S B c2 _ (by omega) HR2.out).mono ?_
      rintro e w2 ⟨q, rfl, ho, hb2⟩
      rw [HLK.out] at ho ⊢
      rw [HX3.out] at ho
      have h2 := HSS.out.ext hb2
      obtain ⟨v0, hd0⟩ := own_cell h2.hd k (by omega)
      have hf0 := h2.hd.frozenAt k
      have HO2 := hide ho
      have HE2 := hide hb2
      clear ho h2 hb2
      go_wp2_with fail
      go_roundw
      case rel =>
        refine ⟨k + 1, by omega, by go_num, hide ⟨_, _, _, HSS.out.step HE2.out hlt HO2.out (by omega), fun i hi hik => ?_⟩, (HE1.out.trans HE2.out).setk (Nat.le_refl _) _⟩
        by_cases e : i = k
        · subst e; simp
        · simp only [e, if_false]
          exact HX.out i hi (by omega)
      case measure => simp [intOf]; omega
    · have hkl : k = L.length := by omega
      subst hkl
      go_wp2_with fail
      go_ret
      obtain ⟨G, xs, X, hss, hX⟩ := HS.out
      exact ⟨_, G, xs, X, rfl, hss, fun i hi => hX i hi hi, hE1⟩
theorem eqNodeS_same (l : List P2) (A B : Option Addr) (c d : Nat) (w : World) (hl : l.length ≤ 1048576) (hr : R2 w A l) (hr' : R2 w B l) :
    Calls Tryz.prog 74 #[.slice A l.length c, .slice B l.length d] w fun e w' => e = .returned (.bool true) ∧ Ext w w' :=
  (eqNodeS_any l l A B c d w hl hl hr hr').mono (by rintro e w' ⟨rfl, h⟩; exact ⟨by rw [decide_eq_true rfl], h⟩)
set_option maxRecDepth 20000 in
set_option maxHeartbeats 1000000 in
theorem eqNodeSS_any (L : List (List P2)) (A B : Option Addr) (c d : Nat) (w : World) (hl : (L.length : Int) + totalSS L ≤ 1048576) (hr : RSS w A L) (hr' : RSS w B L) :
    Calls Tryz.prog 36 #[.slice A L.length c, .slice B L.length d] w fun e w' => e = .returned (.bool true) ∧ Ext w w' := by
  have HR := hide hr
  have HR' := hide hr'
  clear hr hr'
  go_enter Tryz.func36, Tryz.ntmps36
  go_wp2_with fail
  go_loopw [5] (fun i wr => ∃ k : Nat, k ≤ L.length ∧ i = .int .i64 k ∧ Ext w wr) (fun i _ => L.length - (intOf i).toNat)
  case atStart => exact ⟨0, Nat.zero_le _, rfl, Ext.refl _⟩
  case round =>
    obtain ⟨k, hk, rfl, hE⟩ := hrel
    by_cases hlt : k < L.length
    · obtain ⟨b, off, rfl, hb, B1, c1, hc, hc1, hc2, hr1⟩ := (HR.out.ext hE).at_ hlt
      obtain ⟨b', off', rfl, hb', B2, d1, hc', hc1', hc2', hr2⟩ := (HR'.out.ext hE).at_ hlt
      have hll := totalSS_row hlt
      have HE := hide hE
      have H1 := hide hr1
      have H2 := hide hr2
      have H3 := hide hb
      have H4 := hide hb'
      clear hE hr1 hr2
      obtain ⟨S, hS⟩ : ∃ S, L[k] = S := ⟨_, rfl⟩
      rw [hS] at hc hc' H1 H2 hll
      go_wp2_with fail
      go_region_held3 (fun w' => (∀ (q o : Nat), q < wr.heap.size → w'.cell? ⟨q, o, none⟩ = wr.cell? ⟨q, o, none⟩) ∧ Ext wr w') ((apply ExtS; repeat (first | exact kE | exact Ext.refl _ | apply Ext.alloc | apply Ext.drewN | apply Ext.drew | apply Ext.set0 | apply Ext.set1 | apply Ext.set2 | apply Ext.set3 | (refine Ext.setk ?_ (by omega) _) | (apply Ext.snoc; assumption)))) ((first | (go_at_call 74; refine (eqNodeS_same S B1 B2 c1 d1 _ (by omega) (H1.out.ext (by repeat (first | exact kE | exact Ext.refl _ | apply Ext.alloc | apply Ext.drewN | apply Ext.drew | apply Ext.set0 | apply Ext.set1 | apply Ext.set2 | apply Ext.set3 | (refine Ext.setk ?_ (by omega) _) | (apply Ext.snoc; assumption)))) (H2.out.ext (by repeat (first | exact kE | exact Ext.refl _ | apply Ext.alloc | apply Ext.drewN | apply Ext.drew | apply Ext.set0 | apply Ext.set1 | apply Ext.set2 | apply Ext.set3 | (refine Ext.setk ?_ (by omega) _) | (apply Ext.snoc; assumption))))).mono ?_; rintro e w2 ⟨rfl, hb2⟩)))
      go_wp2_with fail
      go_roundw
      case rel => exact ⟨k + 1, by omega, by go_num, HE.out.trans (by repeat (first | exact kE | exact Ext.refl _ | apply Ext.alloc | apply Ext.drewN | apply Ext.drew | apply Ext.set0 | apply Ext.set1 | apply Ext.set2 | apply Ext.set3 | (refine Ext.setk ?_ (by omega) _) | (apply Ext.snoc; assumption)))⟩
      case measure => simp [intOf]; omega
    · go_wp2_with fail
      go_ret
      exact ⟨rfl, hE⟩
set_option maxRecDepth 20000 in
set_option maxHeartbeats 1000000 in
theorem markNodeSS_any (L : List (List P2)) (g base hi : Nat) (G : Nat → Nat) (xs : List Value) (X : Nat → List Value) (k : Int) (w : World) (hl : (L.length : Int) + totalSS L ≤ 1048576) (hk : 0 ≤ k) (hk' : k ≤ 100000000)
    (h : SSO w base g L.length L.length L G xs X) (hg : g < hi) (hG : ∀ i, i < L.length → G i < hi) :
    Calls Tryz.prog 38 #[.slice (some ⟨g, 0, none⟩) L.length L.length, .int .i64 k] w fun e w' => e = .returned (.int .i64 (k + 2 * totalSS L)) ∧ Rng base hi w w' := by
  have HS := hide h
  have hxs : xs = hdrS G L L.length := by
    have ht := h.tk
    rwa [List.take_of_length_le (by rw [h.hd.1]; omega)] at ht
  subst hxs
  have hgz := (h.hd.lt g rfl).2
  clear h
  go_enter Tryz.func38, Tryz.ntmps38
  go_wp2_with fail
  go_loopw [1, 5] (fun q i wr => ∃ j : Nat, j ≤ L.length ∧ i = .int .i64 j ∧ q = .int .i64 (k + 2 * totalSS (L.take j)) ∧ Hid (∃ X, SSO wr base g L.length L.length L G (hdrS G L L.length) X) ∧ Hid (Rng base hi w wr)) (fun _ i _ => L.length - (intOf i).toNat)
  case atStart => exact ⟨0, Nat.zero_le _, rfl, by simp [totalSS], hide ⟨X, HS.out⟩, hide (Rng.refl _ _ _)⟩
  case round =>
    obtain ⟨j, hj, rfl, rfl, HX, HG⟩ := hrel
    have htl := totalSS_le (L := L) j
    by_cases hlt : j < L.length
    · obtain ⟨Y, hss⟩ := HX.out
      have hc : wr.cell? ⟨g, j, none⟩ = some (Value.slice (some ⟨G j, 0, none⟩) (lnS L j) (lnS L j)) := by rw [hss.hd.cellAt j (by omega)]; exact hdrS_get hlt
      have hgz2 := (hss.hd.lt g rfl).2
      have HSS := hide hss
      have ht := totalSS_take hlt
      have htl2 := totalSS_le (L := L) (j + 1)
      have hlk := lnS_eq hlt
      rw [← hlk] at ht
      clear hss HX
      obtain ⟨n, hn⟩ : ∃ n, lnS L j = n := ⟨_, rfl⟩
      obtain ⟨T, hT⟩ : ∃ T, totalSS (L.take j) = T := ⟨_, rfl⟩
      rw [hn] at hc ht
      rw [hT] at htl ht
      rw [hT]
      have HRW := hide (by have h := (HSS.out.row j hlt).2; rw [hn] at h; exact h)
      go_wp2_with fail
      refine (markNodeS_any n (some ⟨G j, 0, none⟩) n base (Y j) (k + 2 * T) _ (by omega) (by omega) (by omega) HRW.out).mono ?_
      rintro e w2 ⟨rfl, ho, hg2⟩
      have HO := hide ho
      have HG2 := hide hg2
      clear ho hg2
      go_wp2_with fail
      go_roundw
      case rel =>
        refine ⟨j + 1, by omega, by go_num, by rw [ht]; congr 1; push_cast; omega, hide ⟨fun i => if i = j then encI (marks (k + 2 * T) (n * 2)) else Y i, HSS.out.hd.kept HG2.out (.inr fun e => (HSS.out.row j hlt).1 (by have e : some g = some (G j) := e; injection e with e; exact e.symm)), HSS.out.tk, fun i hi => ⟨(HSS.out.row i hi).1, ?_⟩, HSS.out.inj⟩, hide (HG.out.trans (Rng.of_grown HG2.out fun q e => ?_))⟩
        · by_cases e : i = j
          · subst e
            simp only [if_true, hn]
            exact HO.out
          · simp only [e, if_false]
            exact (HSS.out.row i hi).2.kept HG2.out (.inr fun e2 => e (HSS.out.inj i j hi hlt (by have e2 : some (G i) = some (G j) := e2; injection e2)))
        · have e : some (G j) = some q := e
          injection e with e
          subst e
          exact ⟨(HRW.out.lt (G j) rfl).1, hG j hlt⟩
      case measure => simp [intOf]; omega
    · have hjl : j = L.length := by omega
      subst hjl
      go_wp2_with fail
      go_ret
      rw [List.take_length]
      exact ⟨rfl, HG.out⟩
end Go.Proofs.YtabgcpoaepafjaaGreat
