/- Words and walks for the law FnMatches, a part of them. No condition but that the arguments lie in memory. -/
import Derived.Test.YtabgcpoaepafjaaGreatU2
import Derived.Test.YtabgcpoaepafjaaGreatU3
import Derived.Test.YtabgcpoaepafjaaGreatU4
import Derived.Test.YtabgcpoaepafjaaGreatU5
import Derived.BigRegion
set_option linter.unusedVariables false
set_option linter.unusedSimpArgs false
namespace Go.Proofs.YtabgcpoaepafjaaGreat
open Go.RowKit
theorem half_nat (d : Nat) : (d : Int).tdiv 2 = ((d / 2 : Nat) : Int) := by rw [Int.tdiv_eq_ediv_of_nonneg (by omega)]; omega
theorem mod_nat (d : Nat) : (d : Int).tmod 2 = ((d % 2 : Nat) : Int) := by rw [Int.tmod_eq_emod_of_nonneg (by omega)]; omega
theorem dartFrom_any (N E : List P2) (A B : Option Addr) (c c' : Nat) (d : Nat) (w : World) (h : WR w N E A B c c') (hd : d < 2 * E.length) :
    Calls Tryz.prog 120 #[.agg #[.slice A N.length c, .slice B E.length c'], .int .i64 (d : Nat)] w fun e w' => e = .returned (.int .i64 (fromN E d)) ∧ Ext w w' := by
  have hk : d / 2 < E.length := by omega
  have hl := h.hE
  obtain ⟨b, off, rfl, hb, e0, e1⟩ := R2.at_ h.hs hk
  obtain ⟨⟨p, q⟩, hpq⟩ : ∃ q : P2, E[d / 2] = q := ⟨_, rfl⟩
  have HF : Hid (fromN E d = if d % 2 = 0 then p else q) := hide (by unfold fromN; rw [at2_eq hk, hpq])
  rw [hpq] at e0 e1
  dsimp only at e0 e1
  have hc := h.hd
  clear h hpq
  have h1 := half_nat d
  have h2 := mod_nat d
  have x0 : (0 : Int) ≤ ((d / 2 : Nat) : Int) := by omega
  have x1 : ((d / 2 : Nat) : Int) < (E.length : Int) := by omega
  go_enter Tryz.func120, Tryz.ntmps120
  rcases Nat.mod_two_eq_zero_or_one d with hm | hm
  · rw [hm] at h2
    go_wp2
    go_ret
    exact ⟨ret_int (by rw [HF.out, if_pos hm]), by repeat (first | exact kE | exact Ext.refl _ | apply Ext.alloc | apply Ext.drewN | apply Ext.drew | apply Ext.set0 | apply Ext.set1 | apply Ext.set2 | apply Ext.set3 | (refine Ext.setk ?_ (by omega) _) | (apply Ext.snoc; assumption))⟩
  · rw [hm] at h2
    go_wp2
    go_ret
    exact ⟨ret_int (by rw [HF.out, if_neg (by omega)]), by repeat (first | exact kE | exact Ext.refl _ | apply Ext.alloc | apply Ext.drewN | apply Ext.drew | apply Ext.set0 | apply Ext.set1 | apply Ext.set2 | apply Ext.set3 | (refine Ext.setk ?_ (by omega) _) | (apply Ext.snoc; assumption))⟩
theorem l05Ends_any (N E : List P2) (A B : Option Addr) (c c' : Nat) (d : Nat) (w : World) (h : WR w N E A B c c') (hd : d < 2 * E.length) :
    Calls Tryz.prog 97 #[.agg #[.slice A N.length c, .slice B E.length c'], .int .i64 (d : Nat)] w fun e w' => e = .returned (.tuple #[.int .i64 (fromN E d), .int .i64 (fromN E (twin d))]) ∧ Ext w w' := by
  have hk : d / 2 < E.length := by omega
  have hl := h.hE
  obtain ⟨b, off, rfl, hb, e0, e1⟩ := R2.at_ h.hs hk
  obtain ⟨⟨p, q⟩, hpq⟩ : ∃ q : P2, E[d / 2] = q := ⟨_, rfl⟩
  have HF : Hid ((fromN E d = if d % 2 = 0 then p else q) ∧ fromN E (twin d) = if d % 2 = 0 then q else p) := hide (by
    unfold fromN
    rw [twin_half, at2_eq hk, hpq]
    refine ⟨rfl, ?_⟩
    unfold twin
    rcases Nat.mod_two_eq_zero_or_one d with hm | hm
    · rw [if_pos hm, if_pos hm, if_neg (by omega)]
    · rw [if_neg (show ¬ d % 2 = 0 by omega), if_neg (show ¬ d % 2 = 0 by omega), if_pos (by omega)])
  rw [hpq] at e0 e1
  dsimp only at e0 e1
  have hc := h.hd
  clear h hpq
  have h1 := half_nat d
  have h2 := mod_nat d
  have x0 : (0 : Int) ≤ ((d / 2 : Nat) : Int) := by omega
  have x1 : ((d / 2 : Nat) : Int) < (E.length : Int) := by omega
  go_enter Tryz.func97, Tryz.ntmps97
  rcases Nat.mod_two_eq_zero_or_one d with hm | hm
  · rw [hm] at h2
    go_wp2
    go_quiet (fail)
    go_wp2
    refine bodyPost_ret (v := .tuple #[.int .i64 p, .int .i64 q]) (by simp only [results, Tryz.results97]; go_simp) rfl ⟨?_, ?_⟩
    · rw [HF.out.1, HF.out.2, if_pos hm, if_pos hm]
    · repeat (first | exact kE | exact Ext.refl _ | apply Ext.alloc | apply Ext.drewN | apply Ext.drew | apply Ext.set0 | apply Ext.set1 | apply Ext.set2 | apply Ext.set3 | (refine Ext.setk ?_ (by omega) _) | (apply Ext.snoc; assumption))
  · rw [hm] at h2
    go_wp2
    go_quiet (fail)
    go_wp2
    refine bodyPost_ret (v := .tuple #[.int .i64 q, .int .i64 p]) (by simp only [results, Tryz.results97]; go_simp) rfl ⟨?_, ?_⟩
    · rw [HF.out.1, HF.out.2, if_neg (by omega), if_neg (by omega)]
    · repeat (first | exact kE | exact Ext.refl _ | apply Ext.alloc | apply Ext.drewN | apply Ext.drew | apply Ext.set0 | apply Ext.set1 | apply Ext.set2 | apply Ext.set3 | (refine Ext.setk ?_ (by omega) _) | (apply Ext.snoc; assumption))
end Go.Proofs.YtabgcpoaepafjaaGreat
namespace Go.Proofs.YtabgcpoaepafjaaGreat
open Go.RowKit
theorem insAll_perm (lt : Nat → Nat → Bool) (l : List Nat) : ∀ i, i ≤ l.length → (insAll lt (l.take i)).Perm (l.take i)
  | 0, _ => .refl _
  | i + 1, h => by
    rw [insAll_take_succ lt l (show i < l.length by omega)]
    refine (insR_perm lt _ _).trans ?_
    rw [List.take_succ_eq_append_getElem (show i < l.length by omega)]
    exact ((insAll_perm lt l i (by omega)).cons _).trans (List.perm_append_singleton _ _).symm
theorem insAll_mem {lt : Nat → Nat → Bool} {l : List Nat} {i x : Nat} (h : i ≤ l.length) (hx : x ∈ insAll lt (l.take i)) : x ∈ l := List.mem_of_mem_take ((insAll_perm lt l i h).mem_iff.1 hx)
theorem ins_start (lt : Nat → Nat → Bool) (l : List Nat) (h : 0 < l.length) : (insAll lt (l.take 1)).reverse ++ l.drop 1 = l := by
  cases l with
  | nil => simp at h
  | cons a t => simp [insAll, insR]
theorem ins_mid (lt : Nat → Nat → Bool) (l : List Nat) {i : Nat} (h : i < l.length) : (insAll lt (l.take i)).reverse ++ l.drop i = midL l[i] [] (insAll lt (l.take i)) (l.drop (i + 1)) := by
  rw [List.drop_eq_getElem_cons h]
  simp [midL]
theorem ins_done (lt : Nat → Nat → Bool) (l : List Nat) {i : Nat} (h : i < l.length) {a b : List Nat} (he : insR lt l[i] (insAll lt (l.take i)) = a ++ l[i] :: b) : midL l[i] a b (l.drop (i + 1)) = (insAll lt (l.take (i + 1))).reverse ++ l.drop (i + 1) := by
  rw [midL_end, insAll_take_succ lt l h, he]
theorem own_cellN {w : World} {B g n c k : Nat} {T : TypeId} {L : List Nat} {v : Nat} (h : w.ownsRow B T 1 (.slice (some ⟨g, 0, none⟩) n c) n (encN L)) (hL : L.length = n) (hk : L[k]? = some v) : w.cell? ⟨g, k, none⟩ = some (.int .i64 (v : Nat)) := by
  have hlt : k < L.length := (List.getElem?_eq_some_iff.1 hk).1
  rw [h.cellAt k (by omega)]
  simp [encN, hk]
theorem own_ltg {w : World} {B g n c : Nat} {T : TypeId} {xs : List Value} (h : w.ownsRow B T 1 (.slice (some ⟨g, 0, none⟩) n c) n xs) : B ≤ g ∧ g < w.heap.size := h.lt g rfl
theorem own_swap {w : World} {B g n c : Nat} {T : TypeId} {v x : Nat} {a b rest : List Nat} (h : w.ownsRow B T 1 (.slice (some ⟨g, 0, none⟩) n c) n (encN (midL v a (x :: b) rest))) {w0 : World} (hE : Ext w0 w) (hB : w0.heap.size ≤ B) :
    ((w.setCell ⟨g, b.length + 1, none⟩ (.int .i64 (x : Nat))).setCell ⟨g, b.length, none⟩ (.int .i64 (v : Nat))).ownsRow B T 1 (.slice (some ⟨g, 0, none⟩) n c) n (encN (midL v (a ++ [x]) b rest)) ∧ Ext w0 ((w.setCell ⟨g, b.length + 1, none⟩ (.int .i64 (x : Nat))).setCell ⟨g, b.length, none⟩ (.int .i64 (v : Nat))) := by
  have hg := own_ltg h
  refine ⟨?_, (hE.setk (by omega) _).setk (by omega) _⟩
  have h1 := (((h.stored (b.length + 1) (.int .i64 (x : Nat))).1).stored b.length (.int .i64 (v : Nat))).1
  rw [← encN_set, ← encN_set, midL_swap] at h1
  exact h1
/-- What is asked of the order's function. -/
def CmpE (g : Nat) (cb : Array Value) (cf : Nat → Nat → Int) (l : List Nat) (w0 : World) : Prop :=
  ∀ (W : World) (d e : Nat), Ext w0 W → d ∈ l → e ∈ l → Calls Tryz.prog g (#[.int .i64 (d : Nat), .int .i64 (e : Nat)] ++ cb) W fun x W' => x = .returned (.int .i64 (cf d e)) ∧ Ext W W'
set_option maxRecDepth 20000 in
set_option maxHeartbeats 4000000 in
theorem insSort_any (lt : Nat → Nat → Bool) (cf : Nat → Nat → Int) (l : List Nat) (cb : Array Value) (B g c : Nat) (w0 w : World) (hcf : ∀ d e, decide (cf d e < 0) = lt d e) (hl : l.length ≤ 12) (hpos : 0 < l.length) (hB : w0.heap.size ≤ B)
    (hcmp : CmpE 145 cb cf l w0) (hE : Ext w0 w) (hown : w.ownsRow B 3 1 (.slice (some ⟨g, 0, none⟩) l.length c) l.length (encN l)) :
    Calls Tryz.prog 151 #[.slice (some ⟨g, 0, none⟩) l.length c, .int .i64 0, .int .i64 (l.length : Nat), .func (.func 145) #[] cb] w fun x w' => x = .returned (.tuple #[]) ∧ w'.ownsRow B 3 1 (.slice (some ⟨g, 0, none⟩) l.length c) l.length (encN (insAll lt l).reverse) ∧ Ext w0 w' := by
  have HO := hide hown
  have HC := hide hcmp
  have HF := hide hcf
  have HB := hide hB
  have HE := hide hE
  clear hown hcmp hcf hB hE
  go_enter Tryz.func151, Tryz.ntmps151
  go_wp2_with fail
  go_loopw [8] (fun vi wr => ∃ i : Nat, 1 ≤ i ∧ i ≤ l.length ∧ vi = .int .i64 i ∧ Hid (wr.ownsRow B 3 1 (.slice (some ⟨g, 0, none⟩) l.length c) l.length (encN ((insAll lt (l.take i)).reverse ++ l.drop i))) ∧ Hid (Ext w0 wr)) (fun vi _ => l.length - (intOf vi).toNat)
  case atStart => exact ⟨1, Nat.le_refl _, hpos, by go_num, by rw [ins_start lt l hpos]; exact HO, HE⟩
  case round =>
    clear HO HE
    obtain ⟨i, hi1, hi2, rfl, HO, HE⟩ := hrel
    by_cases hlt : i < l.length
    · have hltz : (i : Int) < (l.length : Int) := by omega
      obtain ⟨v, hv⟩ : ∃ v, l[i] = v := ⟨_, rfl⟩
      have HV := hide hv
      clear hv
      obtain ⟨r, hr⟩ : ∃ r, insAll lt (l.take i) = r := ⟨_, rfl⟩
      have HR := hide hr
      clear hr
      obtain ⟨rest, hrest⟩ : ∃ r, l.drop (i + 1) = r := ⟨_, rfl⟩
      have HS := hide hrest
      clear hrest
      have HL : Hid (r.length = i ∧ rest.length + (i + 1) = l.length) := hide ⟨by rw [← HR.out]; exact insAll_length lt l i (by omega), by rw [← HS.out, List.length_drop]; omega⟩
      go_wp2_with fail
      go_loopw [9] (fun vj wi => ∃ a b : List Nat, vj = .int .i64 (b.length : Nat) ∧ Hid (InsMid lt v r a b) ∧ Hid (wi.ownsRow B 3 1 (.slice (some ⟨g, 0, none⟩) l.length c) l.length (encN (midL v a b rest))) ∧ Hid (Ext w0 wi)) (fun vj _ => (intOf vj).toNat)
      case atStart => exact ⟨[], r, by rw [HL.out.1], hide (InsMid.start lt v r), hide (by have := HO.out; rw [ins_mid lt l hlt, HV.out, HR.out, HS.out] at this; exact this), HE⟩
      case round =>
        clear HO HE
        obtain ⟨a, b, rfl, HM, HO, HE⟩ := hrel
        cases b with
        | nil =>
          have hg : decide ((0 : Int) < 0) = false := rfl
          go_wp2_with fail
          
          refine wp_region_quietE (by kernel_rfl) (by kernel_rfl) ?_; (repeat (refine WQ.step (fun K hK => ?_); have HK := hide hK; clear hK; go_simp; refine HK.out _ ?_; clear HK K)); refine WQ.done ?_; intro w2 hw'; obtain ⟨⟨_, hw2⟩, hw''⟩ := hw'; subst hw''
          have HE2 := hide (HE.out.trans hw2)
          have HO2 := hide (own_ext HO.out hw2)
          clear hw2 HO HE
          go_wp2_with fail
          go_roundw
          case rel => exact ⟨i + 1, by omega, by omega, by go_num, hide (by have := HO2.out; rw [← ins_done lt l hlt (a := a) (b := []) (by rw [HV.out, HR.out]; exact HM.out.stop_nil), HV.out, HS.out]; exact this), HE2⟩
          case measure => simp [intOf]; omega
        | cons x b =>
          obtain ⟨j, hj⟩ : ∃ j, b.length = j := ⟨_, rfl⟩
          have HJ := hide hj
          have hle : a.length + (b.length + 1) = i := by have := HM.out.eq; have h2 := HL.out.1; rw [this] at h2; simp at h2; omega
          have hll : (midL v a (x :: b) rest).length = l.length := by rw [midL_length]; have := HL.out.2; simp; omega
          have hv0 : (midL v a (x :: b) rest)[j + 1]? = some v := by have := midL_v v a (x :: b) rest; rw [List.length_cons, hj] at this; exact this
          have hx0 : (midL v a (x :: b) rest)[j]? = some x := by have := midL_x v x a b rest; rw [hj] at this; exact this
          have hjn : j + 1 < l.length := by omega
          have cv := own_cellN HO.out hll hv0
          have cx := own_cellN HO.out hll hx0
          have hvl : v ∈ l := by rw [← HV.out]; exact List.getElem_mem _
          have hxl : x ∈ l := insAll_mem (lt := lt) (i := i) (by omega) (by rw [HR.out, HM.out.eq]; simp)
          have hg := (own_ltg HO.out).2
          have f1 := HO.out.frozenAt (j + 1)
          have f2 := HO.out.frozenAt j
          rw [List.length_cons, hj]
          clear hv0 hx0 hll hj hle
          have HIN := hide (And.intro hvl hxl)
          clear hvl hxl
          have qcv := ExtBy.cell (W := wr) hg cv
          have qcx := ExtBy.cell (W := wr) hg cx
          have z0 : ((j + 1 : Nat) : Int) = (j : Int) + 1 := by omega
          rw [z0]
          clear z0
          obtain ⟨iN, hiN⟩ : ∃ iN, iN = j + 1 := ⟨_, rfl⟩
          rw [← hiN] at cv f1 qcv
          have HIJ := hide hiN
          have z1 : decide ((j : Int) + 1 > 0) = true := decide_eq_true (by omega)
          have z2 : ((j : Int) + 1).toNat = iN := by omega
          have z3 : (0 : Int) ≤ (j : Int) + 1 := by omega
          have z4 : (j : Int) + 1 < (l.length : Int) := by omega
          have z5 : (j : Int) < (l.length : Int) := by omega
          have z6 : (0 : Int) < (j : Int) + 1 := by omega
          have z7 : IntKind.i64.wrap (j : Int) = (j : Int) := by rw [IntKind.wrap_i64]; omega
          have z8 : IntKind.i64.wrap ((j : Int) + 1) = (j : Int) + 1 := by rw [IntKind.wrap_i64]; omega
          have z9 : (0 : Int) ≤ (j : Int) := by omega
          clear hiN
          cases hlv : lt v x with
          | true =>
            have hd : decide (cf v x < 0) = true := by rw [HF.out]; exact hlv
            have hd' : cf v x < 0 := of_decide_eq_true hd
            have HLV := hide hlv
            clear hlv
            go_wp2_with fail
            refine wp_region_quietE (by kernel_rfl) (by kernel_rfl) ?_
            (repeat (refine WQ.step (fun K hK => ?_); have HK := hide hK; clear hK; go_simp; refine HK.out _ ?_; clear HK K))
            (refine WQ.step (fun K hK => ?_); have HK := hide hK; clear hK; go_simp; apply Exists.intro; refine ⟨fun _ => ?_, HK.out _ ?_⟩; (go_at_call 145; refine extby_of (HC.out _ _ _ (HE.out.trans (ExtBy.h _)) HIN.out.1 HIN.out.2)); clear HK K)
            (repeat (refine WQ.step (fun K hK => ?_); have HK := hide hK; clear hK; go_simp; refine HK.out _ ?_; clear HK K))
            refine WQ.done ?_; intro w2 hw'; obtain ⟨⟨_, hw2⟩, hw''⟩ := hw'; subst hw''
            have HE2 := hide (HE.out.trans hw2)
            have HO2 := hide (own_ext HO.out hw2)
            have c1 := (hw2.facts.1 g _ hg).trans cv
            have c2 := (hw2.facts.1 g _ hg).trans cx
            have g1 := (hw2.facts.2.1 g iN hg).trans f1
            have g2 := (hw2.facts.2.1 g j hg).trans f2
            obtain ⟨u3, c3⟩ : ∃ u3, (w2.setCell ⟨g, iN, none⟩ (.int .i64 (x : Nat))).cell? ⟨g, j, none⟩ = some u3 := ⟨_, by
              rw [World.cell?_setCell_other _ _ _ _ (by have := HIJ.out; intro e; simp only [Addr.mk.injEq] at e; omega)]
              exact c2⟩
            clear hw2 HE HO qcv qcx cv cx f1 f2 hd hd' hg
            go_wp2_with fail
            go_big_region
            have hsw : ((w2.setCell ⟨g, iN, none⟩ (.int .i64 (x : Nat))).setCell ⟨g, j, none⟩ (.int .i64 (v : Nat))).drew.ownsRow B 3 1 (.slice (some ⟨g, 0, none⟩) l.length c) l.length (encN (midL v (a ++ [x]) b rest)) ∧ Ext w0 ((w2.setCell ⟨g, iN, none⟩ (.int .i64 (x : Nat))).setCell ⟨g, j, none⟩ (.int .i64 (v : Nat))).drew := by
              rw [HIJ.out, ← HJ.out]
              have h := own_swap HO2.out HE2.out HB.out
              exact ⟨own_ext h.1 ((Ext.refl _).drew), h.2.drew⟩
            clear c1 c2 c3 g1 g2 HO2 HE2
            obtain ⟨w3, hw3⟩ : ∃ w3, w3 = ((w2.setCell ⟨g, iN, none⟩ (.int .i64 (x : Nat))).setCell ⟨g, j, none⟩ (.int .i64 (v : Nat))).drew := ⟨_, rfl⟩
            rw [← hw3] at hsw ⊢
            clear hw3
            have HSW := hide hsw
            clear hsw
            go_wp2_with fail
            go_roundw
            case rel => exact ⟨a ++ [x], b, by rw [HJ.out], hide (HM.out.go HLV.out), hide HSW.out.1, hide HSW.out.2⟩
            case measure => simp [intOf]
          | false =>
            have hd : decide (cf v x < 0) = false := by rw [HF.out]; exact hlv
            have hd' : ¬ cf v x < 0 := of_decide_eq_false hd
            have HLV := hide hlv
            clear hlv
            go_wp2_with fail
            refine wp_region_quietE (by kernel_rfl) (by kernel_rfl) ?_
            (repeat (refine WQ.step (fun K hK => ?_); have HK := hide hK; clear hK; go_simp; refine HK.out _ ?_; clear HK K))
            (refine WQ.step (fun K hK => ?_); have HK := hide hK; clear hK; go_simp; apply Exists.intro; refine ⟨fun _ => ?_, HK.out _ ?_⟩; (go_at_call 145; refine extby_of (HC.out _ _ _ (HE.out.trans (ExtBy.h _)) HIN.out.1 HIN.out.2)); clear HK K)
            (repeat (refine WQ.step (fun K hK => ?_); have HK := hide hK; clear hK; go_simp; refine HK.out _ ?_; clear HK K))
            refine WQ.done ?_; intro w2 hw'; obtain ⟨⟨_, hw2⟩, hw''⟩ := hw'; subst hw''
            have HE2 := hide (HE.out.trans hw2)
            have HO2 := hide (own_ext HO.out hw2)
            clear hw2 HE HO qcv qcx cv cx f1 f2 hd hd' hg
            go_wp2_with fail
            go_roundw
            case rel => exact ⟨i + 1, by omega, by omega, by go_num, hide (by have := HO2.out; rw [← ins_done lt l hlt (a := a) (b := x :: b) (by rw [HV.out, HR.out]; exact HM.out.stop HLV.out), HV.out, HS.out]; exact this), HE2⟩
            case measure => simp [intOf]; omega
    · obtain rfl : i = l.length := by omega
      have hltz : ¬ ((l.length : Nat) : Int) < (l.length : Int) := by omega
      go_wp2_with fail
      go_end0
      exact ⟨rfl, by have := HO.out; rw [List.take_length, List.drop_length, List.append_nil] at this; exact this, HE.out⟩
set_option maxRecDepth 20000 in
theorem Len64_small (n : Nat) (h : n ≤ 12) (w : World) : Calls Tryz.prog 160 #[.int .u64 (n : Nat)] w fun e w' => (∃ v : Int, e = .returned (.int .i64 v)) ∧ w = w' := by
  have h' : n = 0 ∨ n = 1 ∨ n = 2 ∨ n = 3 ∨ n = 4 ∨ n = 5 ∨ n = 6 ∨ n = 7 ∨ n = 8 ∨ n = 9 ∨ n = 10 ∨ n = 11 ∨ n = 12 := by omega
  clear h
  rcases h' with rfl | rfl | rfl | rfl | rfl | rfl | rfl | rfl | rfl | rfl | rfl | rfl | rfl <;> (go_enter Tryz.func160, Tryz.ntmps160; go_wp2; go_ret; exact ⟨⟨_, rfl⟩, rfl⟩)
theorem Len_small (n : Nat) (h : n ≤ 12) (w : World) : Calls Tryz.prog 149 #[.int .u64 (n : Nat)] w fun e w' => (∃ v : Int, e = .returned (.int .i64 v)) ∧ w = w' := by
  have hc := Len64_small n h w
  go_enter Tryz.func149, Tryz.ntmps149
  go_wp2_with (go_at_call 160; refine hc.mono ?_; rintro e w' ⟨⟨v, rfl⟩, rfl⟩)
  go_ret
  exact ⟨⟨_, rfl⟩, rfl⟩
set_option maxHeartbeats 2000000 in
theorem pdqSort_any (lt : Nat → Nat → Bool) (cf : Nat → Nat → Int) (l : List Nat) (cb : Array Value) (B g c : Nat) (lim : Int) (w0 w : World) (hcf : ∀ d e, decide (cf d e < 0) = lt d e) (hl : l.length ≤ 12) (hpos : 0 < l.length) (hB : w0.heap.size ≤ B)
    (hcmp : CmpE 145 cb cf l w0) (hE : Ext w0 w) (hown : w.ownsRow B 3 1 (.slice (some ⟨g, 0, none⟩) l.length c) l.length (encN l)) :
    Calls Tryz.prog 148 #[.slice (some ⟨g, 0, none⟩) l.length c, .int .i64 0, .int .i64 (l.length : Nat), .int .i64 lim, .func (.func 145) #[] cb] w fun x w' => x = .returned (.tuple #[]) ∧ w'.ownsRow B 3 1 (.slice (some ⟨g, 0, none⟩) l.length c) l.length (encN (insAll lt l).reverse) ∧ Ext w0 w' := by
  have hi := insSort_any lt cf l cb B g c w0 w hcf hl hpos hB hcmp hE hown
  have HI := hide hi
  clear hi hcf hB hcmp hE hown
  have hlz : (l.length : Int) ≤ 12 := by omega
  go_enter Tryz.func148, Tryz.ntmps148
  go_wp2_with fail
  refine wp_loop_rounds 1 ?_
  rw [rounds_succ]
  go_wp2_with fail
  refine HI.out.mono ?_
  rintro e w' ⟨rfl, h1, h2⟩
  have H := hide (And.intro h1 h2)
  clear h1 h2
  go_wp2_with fail
  (try simp only [Exit.inBlock, Exit.then])
  refine bodyPost_ret (results_none rfl _ _ _) rfl ?_
  exact ⟨rfl, H.out⟩
set_option maxHeartbeats 2000000 in
theorem SortFunc_any (lt : Nat → Nat → Bool) (cf : Nat → Nat → Int) (l : List Nat) (cb : Array Value) (B g c : Nat) (w0 w : World) (hcf : ∀ d e, decide (cf d e < 0) = lt d e) (hl : l.length ≤ 12) (hpos : 0 < l.length) (hB : w0.heap.size ≤ B)
    (hcmp : CmpE 145 cb cf l w0) (hE : Ext w0 w) (hown : w.ownsRow B 3 1 (.slice (some ⟨g, 0, none⟩) l.length c) l.length (encN l)) :
    Calls Tryz.prog 144 #[.slice (some ⟨g, 0, none⟩) l.length c, .func (.func 145) #[] cb] w fun x w' => x = .returned (.tuple #[]) ∧ w'.ownsRow B 3 1 (.slice (some ⟨g, 0, none⟩) l.length c) l.length (encN (insAll lt l).reverse) ∧ Ext w0 w' := by
  have hi := fun lim => pdqSort_any lt cf l cb B g c lim w0 w hcf hl hpos hB hcmp hE hown
  have HI := hide hi
  have hb := Len_small l.length hl w
  clear hi hcf hB hcmp hE hown
  have wr : IntKind.u64.wrap (l.length : Int) = l.length := by simp [IntKind.wrap, IntKind.bits, IntKind.signed]; omega
  go_enter Tryz.func144, Tryz.ntmps144
  go_wp2_with (go_at_call 149; refine hb.mono ?_; rintro e w' ⟨⟨v, rfl⟩, rfl⟩)
  refine (HI.out _).mono ?_
  rintro e w' ⟨rfl, h1, h2⟩
  have H := hide (And.intro h1 h2)
  clear h1 h2
  go_wp2_with fail
  go_end0
  exact ⟨rfl, H.out⟩
end Go.Proofs.YtabgcpoaepafjaaGreat
namespace Go.Proofs.YtabgcpoaepafjaaGreat
open Go.RowKit
def cfD (N E : List P2) (k : Int) (d e : Nat) : Int := if d = e then 0 else if ltD N E k d e = true then -1 else 1
theorem cfD_lt (N E : List P2) (k : Int) (d e : Nat) : decide (cfD N E k d e < 0) = ltD N E k d e := by
  unfold cfD
  by_cases h : d = e
  · subst h
    rw [if_pos rfl]
    have : ltD N E k d d = false := befN_self _ _
    rw [this]
    rfl
  · rw [if_neg h]
    cases ltD N E k d e <;> rfl
theorem i64_xor (a b : Nat) (ha : a < 2 ^ 62) (hb : b < 2 ^ 62) : bits .xor .i64 (a : Int) (b : Int) = ((a ^^^ b : Nat) : Int) := by
  have e : (BitVec.ofInt 64 (a : Int) ^^^ BitVec.ofInt 64 (b : Int)).toNat = a ^^^ b := by
    rw [BitVec.toNat_xor]
    have ha' : (BitVec.ofInt 64 (a : Int)).toNat = a := by simp; omega
    have hb' : (BitVec.ofInt 64 (b : Int)).toNat = b := by simp; omega
    rw [ha', hb']
  show IntKind.i64.wrap ((BitVec.ofInt 64 (a : Int) ^^^ BitVec.ofInt 64 (b : Int)).toNat : Nat) = _
  rw [e]
  exact wraps_i64 _ (Int.natCast_nonneg _) (by have := Nat.xor_lt_two_pow ha hb; omega)
theorem xor_twin (d : Nat) (h : d < 2 ^ 62) : bits .xor .i64 (d : Int) 1 = ((twin d : Nat) : Int) := by
  have := i64_xor d 1 h (by decide)
  rw [twin_xor] at this
  exact this
set_option maxRecDepth 20000 in
set_option maxHeartbeats 4000000 in
theorem around1_any (N E : List P2) (A B : Option Addr) (c c' k d e pw pk : Nat) (w : World) (hw : WR w N E A B c c') (hok : WinOk N E) (hk : k < N.length) (hd : d < 2 * E.length) (he : e < 2 * E.length)
    (hpw : pw < w.heap.size ∧ w.cell? ⟨pw, 0, none⟩ = some (.slice A N.length c) ∧ w.cell? ⟨pw, 1, none⟩ = some (.slice B E.length c')) (hpk : pk < w.heap.size ∧ w.cell? ⟨pk, 0, none⟩ = some (.int .i64 (k : Nat))) :
    Calls Tryz.prog 145 #[.int .i64 (d : Nat), .int .i64 (e : Nat), .pointer (some ⟨pw, 0, none⟩), .pointer (some ⟨pk, 0, none⟩)] w fun x w' => x = .returned (.int .i64 (cfD N E k d e)) ∧ Ext w w' := by
  have hdE := hok.m
  obtain ⟨p, hp⟩ := Int.eq_ofNat_of_zero_le (hok.ends (twin_lt hd)).1
  obtain ⟨q, hq⟩ := Int.eq_ofNat_of_zero_le (hok.ends (twin_lt he)).1
  have hpl : p < N.length := by have := (hok.ends (twin_lt hd)).2.1; omega
  have hql : q < N.length := by have := (hok.ends (twin_lt he)).2.1; omega
  obtain ⟨b, off, rfl, hb, ck0, ck1⟩ := R2.at_ hw.hr hk
  obtain ⟨b', off', hA', _, cp0, cp1⟩ := R2.at_ hw.hr hpl
  injection hA' with hA'
  injection hA' with hA1 hA2 _
  subst hA1 hA2
  obtain ⟨b', off', hA', _, cq0, cq1⟩ := R2.at_ hw.hr hql
  injection hA' with hA'
  injection hA' with hA1 hA2 _
  subst hA1 hA2
  obtain ⟨⟨x1, x2⟩, nx⟩ : ∃ q : P2, N[k] = q := ⟨_, rfl⟩
  obtain ⟨⟨y1, y2⟩, ny⟩ : ∃ q : P2, N[p] = q := ⟨_, rfl⟩
  obtain ⟨⟨z1, z2⟩, nz⟩ : ∃ r : P2, N[q] = r := ⟨_, rfl⟩
  rw [nx] at ck0 ck1
  rw [ny] at cp0 cp1
  rw [nz] at cq0 cq1
  dsimp only at ck0 ck1 cp0 cp1 cq0 cq1
  have HV : Hid (ltD N E k d e = befN (x1, x2) (y1, y2) (z1, z2)) := hide (by unfold ltD; rw [hp, hq]; rw [show ((k : Nat) : Int) = (k : Int) from rfl, at2_eq hk, at2_eq hpl, at2_eq hql, nx, ny, nz])
  have H1 : Hid (∀ W, Ext w W → Calls Tryz.prog 120 #[.agg #[.slice (some ⟨b, off, none⟩) N.length c, .slice B E.length c'], .int .i64 (twin d : Nat)] W fun x w' => x = .returned (.int .i64 (p : Nat)) ∧ Ext W w') := hide (fun W hE => by
    have := dartFrom_any N E (some ⟨b, off, none⟩) B c c' (twin d) W (hw.ext hE) (twin_lt hd)
    rw [hp] at this
    exact this)
  have H2 : Hid (∀ W, Ext w W → Calls Tryz.prog 120 #[.agg #[.slice (some ⟨b, off, none⟩) N.length c, .slice B E.length c'], .int .i64 (twin e : Nat)] W fun x w' => x = .returned (.int .i64 (q : Nat)) ∧ Ext W w') := hide (fun W hE => by
    have := dartFrom_any N E (some ⟨b, off, none⟩) B c c' (twin e) W (hw.ext hE) (twin_lt he)
    rw [hq] at this
    exact this)
  have xd := xor_twin d (by omega)
  have xe := xor_twin e (by omega)
  have hN12 := hok.n
  have hcN := hw.hc
  clear hw hok nx ny nz hp hq
  obtain ⟨pw0, pw1, pw2⟩ := hpw
  obtain ⟨pk0, pk1⟩ := hpk
  have i1 : (0 : Int) ≤ (k : Int) := by omega
  have i2 : (k : Int) < (N.length : Int) := by omega
  have i3 : (0 : Int) ≤ (p : Int) := by omega
  have i4 : (p : Int) < (N.length : Int) := by omega
  have i5 : (0 : Int) ≤ (q : Int) := by omega
  have i6 : (q : Int) < (N.length : Int) := by omega
  generalize twin d = td at *
  generalize twin e = te at *
  have k1 := ExtBy.cell (W := w) hb ck0
  have k2 := ExtBy.cell (W := w) hb ck1
  have k3 := ExtBy.cell (W := w) hb cp0
  have k4 := ExtBy.cell (W := w) hb cp1
  have k5 := ExtBy.cell (W := w) hb cq0
  have k6 := ExtBy.cell (W := w) hb cq1
  have k7 := ExtBy.cell (W := w) pw0 pw1
  have k8 := ExtBy.cell (W := w) pw0 pw2
  have k9 := ExtBy.cell (W := w) pk0 pk1
  go_enter Tryz.func145, Tryz.ntmps145
  go_wp2_with fail
  refine wp_region_MEl 3 40 (fun k => ([21, 22, 23] : List Nat).getD k 0) (fun k => ([24, 25, 26] : List Nat).getD k 0) [.plain, .plain, .plain, .plain, .plain, .plain, .plain, .plain, .plain, .plain, .plain, .plain, .plain, .plain, .plain, .plain, .plain, .plain, .plain, .plain, .plain, .alloc 0, .alloc 1, .alloc 2, .store 0, .store 1, .store 2] (fun k => ([84, 84, 84] : List Nat).getD k 0) (fun k => ([#[.int .i64 0, .int .i64 0], #[.int .i64 0, .int .i64 0], #[.int .i64 0, .int .i64 0]] : List (Array Value)).getD k #[]) (fun k => ([#[.int .i64 x1, .int .i64 x2], #[.int .i64 y1, .int .i64 y2], #[.int .i64 z1, .int .i64 z2]] : List (Array Value)).getD k #[]) (fun k => ([some 7, some 8, some 9] : List (Option Nat)).getD k none) (by kernel_rfl) (by kernel_rfl) (by kernel_rfl) (by kernel_rfl) (by kernel_rfl) rfl (by kernel_rfl) (by kernel_rfl) (by kernel_rfl) ?_
  (refine WMs.step (fun K hK => ?_); have HK := hide hK; clear hK; go_simp; refine HK.out _ ?_; clear HK K)
  (refine WMs.step (fun K hK => ?_); have HK := hide hK; clear hK; go_simp; refine HK.out _ ?_; clear HK K)
  (refine WMs.step (fun K hK => ?_); have HK := hide hK; clear hK; go_simp; refine HK.out _ ?_; clear HK K)
  (refine WMs.step (fun K hK => ?_); have HK := hide hK; clear hK; go_simp; refine HK.out _ ?_; clear HK K)
  (refine WMs.step (fun K hK => ?_); have HK := hide hK; clear hK; go_simp; refine HK.out _ ?_; clear HK K)
  (refine WMs.step (fun K hK => ?_); have HK := hide hK; clear hK; go_simp; refine HK.out _ ?_; clear HK K)
  (refine WMs.step (fun K hK => ?_); have HK := hide hK; clear hK; go_simp; refine HK.out _ ?_; clear HK K)
  (refine WMs.step (fun K hK => ?_); have HK := hide hK; clear hK; go_simp; refine HK.out _ ?_; clear HK K)
  (refine WMs.step (fun K hK => ?_); have HK := hide hK; clear hK; go_simp; refine HK.out _ ?_; clear HK K)
  (refine WMs.step (fun K hK => ?_); have HK := hide hK; clear hK; go_simp; refine HK.out _ ?_; clear HK K)
  (refine WMs.step (fun K hK => ?_); have HK := hide hK; clear hK; go_simp; apply Exists.intro; refine ⟨fun p => ?_, HK.out _ ?_⟩; (go_at_call 120; exact H1.out _ p.h); clear HK K)
  (refine WMs.step (fun K hK => ?_); have HK := hide hK; clear hK; go_simp; refine HK.out _ ?_; clear HK K)
  (refine WMs.step (fun K hK => ?_); have HK := hide hK; clear hK; go_simp; refine HK.out _ ?_; clear HK K)
  (refine WMs.step (fun K hK => ?_); have HK := hide hK; clear hK; go_simp; refine HK.out _ ?_; clear HK K)
  (refine WMs.step (fun K hK => ?_); have HK := hide hK; clear hK; go_simp; refine HK.out _ ?_; clear HK K)
  (refine WMs.step (fun K hK => ?_); have HK := hide hK; clear hK; go_simp; refine HK.out _ ?_; clear HK K)
  (refine WMs.step (fun K hK => ?_); have HK := hide hK; clear hK; go_simp; refine HK.out _ ?_; clear HK K)
  (refine WMs.step (fun K hK => ?_); have HK := hide hK; clear hK; go_simp; refine HK.out _ ?_; clear HK K)
  (refine WMs.step (fun K hK => ?_); have HK := hide hK; clear hK; go_simp; apply Exists.intro; refine ⟨fun p => ?_, HK.out _ ?_⟩; (go_at_call 120; exact H2.out _ p.h); clear HK K)
  (refine WMs.step (fun K hK => ?_); have HK := hide hK; clear hK; go_simp; refine HK.out _ ?_; clear HK K)
  (refine WMs.step (fun K hK => ?_); have HK := hide hK; clear hK; go_simp; refine HK.out _ ?_; clear HK K)
  refine WMs.made (by intro a' w'; go_simp) ?_
  refine WMs.made (by intro a' w'; go_simp) ?_
  refine WMs.made (by intro a' w'; go_simp) ?_
  refine WMs.put (by intro w' b hh; obtain ⟨hc0, hc1, hf, hz⟩ := two_cells hh; refine ⟨_, ?_, put_two hh⟩; go_simp) ?_
  refine WMs.put (by intro w' b hh; obtain ⟨hc0, hc1, hf, hz⟩ := two_cells hh; refine ⟨_, ?_, put_two hh⟩; go_simp) ?_
  refine WMs.put (by intro w' b hh; obtain ⟨hc0, hc1, hf, hz⟩ := two_cells hh; refine ⟨_, ?_, put_two hh⟩; go_simp) ?_
  refine WMs.done ?_
  intro B w2 hE hB
  obtain ⟨⟨⟨_, hB0, hC0⟩, hB1, hC1⟩, hB2, hC2⟩ := hB
  obtain ⟨B0, hb0⟩ : ∃ b, B 0 = b := ⟨_, rfl⟩
  rw [hb0] at hB0 hC0
  obtain ⟨B1, hb1⟩ : ∃ b, B 1 = b := ⟨_, rfl⟩
  rw [hb1] at hB1 hC1
  obtain ⟨B2, hb2⟩ : ∃ b, B 2 = b := ⟨_, rfl⟩
  rw [hb2] at hB2 hC2
  simp only [putB, hb0, hb1, hb2, List.getD_cons_zero, List.getD_cons_succ]
  clear hb0 hb1 hb2
  go_simp
  clear k1 k2 k3 k4 k5 k6 k7 k8 k9
  have HE := hide hE
  obtain ⟨a0, a1, _, _⟩ := two_cells hC0
  obtain ⟨b0, b1, _, _⟩ := two_cells hC1
  obtain ⟨c0, c1, _, _⟩ := two_cells hC2
  clear hC0 hC1 hC2 hE
  have H := IsBeforeAround_any (x1, x2) (y1, y2) (z1, z2) w2
  by_cases hde : d = e
  · subst hde
    go_wp2_with fail
    go_ret
    exact ⟨ret_int (by unfold cfD; rw [if_pos rfl]), HE.out⟩
  · have hde' : ¬ ((d : Int) = (e : Int)) := by omega
    cases hlv : ltD N E k d e with
    | true =>
      rw [← HV.out, hlv] at H
      have HLV := hide hlv
      clear hlv
      go_wp2_with (go_at_call 146; refine H.mono ?_; rintro e w3 ⟨rfl, hb3⟩)
      go_ret
      exact ⟨ret_int (by unfold cfD; rw [if_neg hde, if_pos HLV.out]), HE.out.trans hb3⟩
    | false =>
      rw [← HV.out, hlv] at H
      have HLV := hide hlv
      clear hlv
      go_wp2_with (go_at_call 146; refine H.mono ?_; rintro e w3 ⟨rfl, hb3⟩)
      go_ret
      exact ⟨ret_int (by unfold cfD; rw [if_neg hde, HLV.out]; rfl), HE.out.trans hb3⟩
end Go.Proofs.YtabgcpoaepafjaaGreat
namespace Go.Proofs.YtabgcpoaepafjaaGreat
open Go.RowKit
theorem around_ins (N E : List P2) (k : Int) : aroundL N E k = (insAll (ltD N E k) (dartsAt E k (2 * E.length))).reverse := by
  unfold aroundL
  rw [arR_ins]
theorem around_length (N E : List P2) (k : Int) : (aroundL N E k).length = (dartsAt E k (2 * E.length)).length := (around_perm N E k).length_eq
theorem dartsAt_mem {E : List P2} {k : Int} {n d : Nat} (h : d ∈ dartsAt E k n) : d < n ∧ fromN E d = k := by
  simpa [dartsAt] using h
theorem one_cell (v : Int) : ∀ u ∈ [Value.int .i64 v], u.oneCell' = true := by intro u hu; simp at hu; subst hu; rfl
set_option maxRecDepth 20000 in
set_option maxHeartbeats 4000000 in
theorem around_any (N E : List P2) (A B : Option Addr) (c c' k : Nat) (w : World) (hw : WR w N E A B c c') (hok : WinOk N E) (hk : k < N.length) (hne : 0 < (aroundL N E k).length) :
    Calls Tryz.prog 141 #[.agg #[.slice A N.length c, .slice B E.length c'], .int .i64 (k : Nat)] w fun e w' => ∃ g c2, e = .returned (.slice (some ⟨g, 0, none⟩) (aroundL N E k).length c2) ∧ w'.ownsRow w.heap.size 3 1 (.slice (some ⟨g, 0, none⟩) (aroundL N E k).length c2) (aroundL N E k).length (encN (aroundL N E k)) ∧ Ext w w' := by
  obtain ⟨i0, hi, hz0, hz1, hz2⟩ := info_parts int_info
  rw [around_length] at *
  have HW := hide hw
  have HK := hide hok
  have hm := hok.m
  have hl12 := hok.degree k (2 * E.length) (Nat.le_refl _)
  clear hw hok
  
  go_enter Tryz.func141, Tryz.ntmps141
  go_wp2_with fail
  obtain ⟨w1, hw⟩ : ∃ w1, w1 = (w.alloc (Obj.cells #[Value.slice A N.length c, Value.slice B E.length c'] 27)).alloc (Obj.cells #[Value.int IntKind.i64 (k : Nat)] 3) := ⟨_, rfl⟩; rw [← hw]; have kT : Tr [(w.heap.size, [.slice A N.length c, .slice B E.length c']), (w.heap.size + 1, [.int .i64 (k : Nat)])] w w1 := (by rw [hw]; exact ⟨by (first | (simp [Bx, CellsAt, go_sem, *]; done) | (simp [Bx, CellsAt, go_sem, *]; omega)), by (repeat (first | exact kE | exact Ext.refl _ | apply Ext.alloc | apply Ext.drewN | apply Ext.drew | apply Ext.set0 | apply Ext.set1 | apply Ext.set2 | apply Ext.set3 | (refine Ext.setk ?_ (by omega) _) | (apply Ext.snoc; assumption)))⟩); have HT := hide kT; clear hw kT; have kT := HT.out; simp only [Tr, Bx, CellsAt, Nat.reduceAdd, Nat.zero_add, and_true] at kT; obtain ⟨⟨⟨kz0, kf0, kc0_0, kc0_1⟩, ⟨kz1, kf1, kc1_0⟩⟩, kE⟩ := kT
  have H1 := hide (show CmpE 145 #[.pointer (some ⟨w.heap.size, 0, none⟩), .pointer (some ⟨w.heap.size + 1, 0, none⟩)] (cfD N E k) (dartsAt E k (2 * E.length)) w1 from fun W d e hE hd he =>
    around1_any N E A B c c' k d e w.heap.size (w.heap.size + 1) W (HW.out.ext (kE.trans hE)) HK.out hk (dartsAt_mem hd).1 (dartsAt_mem he).1 (by
      have hF := hE.facts
      first
        | exact ⟨hF.2.2 _ kz0, (hF.1 _ 0 kz0).trans kc0_0, (hF.1 _ 1 kz0).trans kc0_1⟩
        | exact ⟨hF.2.2 _ kz1, (hF.1 _ 0 kz1).trans kc1_0, (hF.1 _ 1 kz1).trans kc1_1⟩) (by
      have hF := hE.facts
      first
        | exact ⟨hF.2.2 _ kz1, (hF.1 _ 0 kz1).trans kc1_0⟩
        | exact ⟨hF.2.2 _ kz0, (hF.1 _ 0 kz0).trans kc0_0⟩))
  have HW1 := hide kE
  clear kz0 kf0 kc0_0 kc0_1 kz1 kf1 kc1_0 kE
  go_loopw [5, 6] (fun v i wr => ∃ d : Nat, d ≤ 2 * E.length ∧ i = .int .i64 d ∧ Hid (wr.ownsRow w1.heap.size 3 1 v (dartsAt E k d).length (encN (dartsAt E k d))) ∧ Hid (Ext w1 wr)) (fun _ i _ => 2 * E.length - (intOf i).toNat)
  case atStart => exact ⟨0, Nat.zero_le _, rfl, hide (World.ownsRow_nil w1 w1.heap.size 3 1), hide (Ext.refl _)⟩
  case round =>
    obtain ⟨d, hd, rfl, HO, HE⟩ := hrel
    have hE := HE.out
    have HT := hide (HT.out.ext hE); clear hE; have kT := HT.out; simp only [Tr, Bx, CellsAt, Nat.reduceAdd, Nat.zero_add, and_true] at kT; obtain ⟨⟨⟨kz0, kf0, kc0_0, kc0_1⟩, ⟨kz1, kf1, kc1_0⟩⟩, kE⟩ := kT
    by_cases hlt : d < 2 * E.length
    · have hlz : (d : Int) < 2 * (E.length : Int) := by omega
      obtain ⟨f, hf⟩ := Int.eq_ofNat_of_zero_le (HK.out.ends hlt).1
      have HF := hide hf
      have HC := fun p : ExtBy wr => dartFrom_any N E A B c c' d p.w (HW.out.ext (kE.trans p.h)) hlt
      rw [hf] at HC
      have HC := hide HC
      clear hf
      go_wp2_with fail
      by_cases hfk : f = k
      · subst hfk
        have kq0_0 := ExtBy.cell (W := wr) kz0 kc0_0; have kq0_1 := ExtBy.cell (W := wr) kz0 kc0_1; have kq1_0 := ExtBy.cell (W := wr) kz1 kc1_0; refine wp_region_quietE (by kernel_rfl) (by kernel_rfl) ?_; (repeat (refine WQ.step (fun K hK => ?_); have HK := hide hK; clear hK; go_simp; refine HK.out _ ?_; clear HK K)); (refine WQ.step (fun K hK => ?_); have HK := hide hK; clear hK; go_simp; apply Exists.intro; refine ⟨fun _ => ?_, HK.out _ ?_⟩; (go_at_call 120; refine extby_of (HC.out _)); clear HK K); (repeat (refine WQ.step (fun K hK => ?_); have HK := hide hK; clear hK; go_simp; refine HK.out _ ?_; clear HK K)); refine WQ.done ?_; intro w3 hw'; obtain ⟨⟨_, hw3⟩, hw''⟩ := hw'; subst hw''; clear kq0_0 kq0_1 kq1_0; have HT := hide (HT.out.ext hw3); have Hw3 := hide hw3; clear hw3 kz0 kf0 kc0_0 kc0_1 kz1 kf1 kc1_0 kE; have kT := HT.out; simp only [Tr, Bx, CellsAt, Nat.reduceAdd, Nat.zero_add, and_true] at kT; obtain ⟨⟨⟨kz0, kf0, kc0_0, kc0_1⟩, ⟨kz1, kf1, kc1_0⟩⟩, kE⟩ := kT
        have HO3 := hide (own_ext HO.out Hw3.out)
        have HE3 := hide (HE.out.trans Hw3.out)
        clear HO HE
        have HD := hide (show dartsAt E (f : Nat) (d + 1) = dartsAt E (f : Nat) d ++ [d] by rw [dartsAt_succ, if_pos HF.out])
        have hsz3 := HE3.out.size
        have hdl := HK.out.degree (f : Nat) d (by omega)
        go_wp2_with (at_builtin; refine wpList_append_own _ rfl _ _ 31 rfl w1.heap.size 3 i0 (.int .i64 0) 1 8 Tryz.underlying31 hi hz0 hz1 hz2 rfl (by decide) u5 (dartsAt E (f : Nat) d).length (encN (dartsAt E (f : Nat) d)) rfl (own_ext HO3.out ((Ext.refl _).alloc _)) ⟨w3.heap.size, 0, none⟩ 1 1 [.int .i64 (d : Int)] rfl rfl (news_new w3 #[.int .i64 (d : Int)] 3) (one_cell _) (by unfold maxLen; omega) (by omega) (by first | (simp; done) | (simp; omega)) ?_; intro v' w4 hown4 hgrow4 hnil)
        have E4 := hide (Ext.grown (HE3.out.alloc _) hgrow4 (own_base HO3.out (Nat.le_refl _)))
        have HO4 := hide (show w4.ownsRow w1.heap.size 3 1 v' (dartsAt E (f : Nat) (d + 1)).length (encN (dartsAt E (f : Nat) (d + 1))) by rw [HD.out, encN_append, List.length_append]; exact hown4)
        clear hown4 hgrow4 hnil HO3 HE3
        go_roundw
        case rel => exact ⟨d + 1, by omega, by go_num, HO4, E4⟩
        case measure => simp [intOf]; omega
      · have hfz : ((f : Int) == (k : Int)) = false := by simp; omega
        have hfz2 : (f == k) = false := by simp; omega
        have HN := hide hfk
        clear hfk
        have kq0_0 := ExtBy.cell (W := wr) kz0 kc0_0; have kq0_1 := ExtBy.cell (W := wr) kz0 kc0_1; have kq1_0 := ExtBy.cell (W := wr) kz1 kc1_0; refine wp_region_quietE (by kernel_rfl) (by kernel_rfl) ?_; (repeat (refine WQ.step (fun K hK => ?_); have HK := hide hK; clear hK; go_simp; refine HK.out _ ?_; clear HK K)); (refine WQ.step (fun K hK => ?_); have HK := hide hK; clear hK; go_simp; apply Exists.intro; refine ⟨fun _ => ?_, HK.out _ ?_⟩; (go_at_call 120; refine extby_of (HC.out _)); clear HK K); (repeat (refine WQ.step (fun K hK => ?_); have HK := hide hK; clear hK; go_simp; refine HK.out _ ?_; clear HK K)); refine WQ.done ?_; intro w3 hw'; obtain ⟨⟨_, hw3⟩, hw''⟩ := hw'; subst hw''; clear kq0_0 kq0_1 kq1_0; have HT := hide (HT.out.ext hw3); have Hw3 := hide hw3; clear hw3 kz0 kf0 kc0_0 kc0_1 kz1 kf1 kc1_0 kE; have kT := HT.out; simp only [Tr, Bx, CellsAt, Nat.reduceAdd, Nat.zero_add, and_true] at kT; obtain ⟨⟨⟨kz0, kf0, kc0_0, kc0_1⟩, ⟨kz1, kf1, kc1_0⟩⟩, kE⟩ := kT
        have HO3 := hide (own_ext HO.out Hw3.out)
        have HE3 := hide (HE.out.trans Hw3.out)
        clear HO HE
        have HD := hide (show dartsAt E (k : Nat) (d + 1) = dartsAt E (k : Nat) d by rw [dartsAt_succ, if_neg (by rw [HF.out]; intro e; exact HN.out (by omega))])
        go_wp2_with fail
        go_roundw
        case rel => exact ⟨d + 1, by omega, by go_num, by rw [HD.out]; exact HO3, HE3⟩
        case measure => simp [intOf]; omega
    · obtain rfl : d = 2 * E.length := by omega
      have hlz : ¬ ((2 * E.length : Nat) : Int) < 2 * (E.length : Int) := by omega
      obtain ⟨A0, c2, rfl, hc2, hA0, hA1⟩ := own_slice HO.out
      cases A0 with
      | none => exact absurd (hA0 rfl) (by omega)
      | some a0 =>
        obtain ⟨g, rfl, hgB, hgl, _⟩ := hA1 a0 rfl
        have HS := hide (SortFunc_any (ltD N E k) (cfD N E k) (dartsAt E k (2 * E.length)) #[.pointer (some ⟨w.heap.size, 0, none⟩), .pointer (some ⟨w.heap.size + 1, 0, none⟩)] w1.heap.size g c2 w1 wr (cfD_lt N E k) hl12 hne (Nat.le_refl _) H1.out HE.out HO.out)
        clear hA0 hA1
        go_wp2_with (go_at_call 144; refine HS.out.mono ?_; rintro e w5 ⟨rfl, h5, h6⟩)
        have H5 := hide h5
        have H6 := hide h6
        have hB := HW1.out.size
        clear h5 h6
        go_wp2_with fail
        go_ret
        exact ⟨g, c2, rfl, by rw [around_ins]; exact own_mono H5.out hB, HW1.out.trans H6.out⟩
end Go.Proofs.YtabgcpoaepafjaaGreat
namespace Go.Proofs.YtabgcpoaepafjaaGreat
open Go.RowKit
theorem midL_shift2 (y x : Nat) (a b rest : List Nat) : (midL y a (x :: b) rest).set (b.length + 1) x = midL x (a ++ [x]) b rest := by
  rw [midL_shift y]
  simp [midL]
theorem midL_put (y v : Nat) (a b rest : List Nat) : (midL y a b rest).set b.length v = midL v a b rest := by
  unfold midL
  rw [List.set_append]
  simp
theorem arR_mem {N E : List P2} {k : Int} {n d : Nat} (h : d ∈ arR N E k n) : d < n ∧ fromN E d = k := dartsAt_mem ((arR_perm N E k n).mem_iff.1 h)
theorem arR_succ {N E : List P2} {k : Int} {n : Nat} (h : fromN E n = k) : arR N E k (n + 1) = insR (ltD N E k) n (arR N E k n) := by simp [arR, h]
theorem arR_skip {N E : List P2} {k : Int} {n : Nat} (h : fromN E n ≠ k) : arR N E k (n + 1) = arR N E k n := by simp [arR, h]
theorem Ext.set' {a b : World} (h : Ext a b) {g : Nat} (hp : a.heap.size ≤ g) (i : Nat) (u : Value) : Ext a (b.setCell ⟨g, i, none⟩ u) := h.setk hp u
set_option maxRecDepth 20000 in
set_option maxHeartbeats 4000000 in
theorem l05Around_any (N E : List P2) (A B : Option Addr) (c c' k : Nat) (w : World) (hw : WR w N E A B c c') (hok : WinOk N E) (hk : k < N.length) (hne : 0 < (aroundL N E k).length) :
    Calls Tryz.prog 137 #[.agg #[.slice A N.length c, .slice B E.length c'], .int .i64 (k : Nat)] w fun e w' => ∃ g c2, e = .returned (.slice (some ⟨g, 0, none⟩) (aroundL N E k).length c2) ∧ w'.ownsRow w.heap.size 3 1 (.slice (some ⟨g, 0, none⟩) (aroundL N E k).length c2) (aroundL N E k).length (encN (aroundL N E k)) ∧ Ext w w' := by
  obtain ⟨i0, hi, hz0, hz1, hz2⟩ := info_parts int_info
  obtain ⟨bN, oN, hA, _⟩ := R2.at_ hw.hr hk
  subst hA
  have HW := hide hw
  have HK := hide hok
  have hm := hok.m
  have HNE := hide hne
  clear hw hok hne
  
  go_enter Tryz.func137, Tryz.ntmps137
  go_wp2_with fail
  obtain ⟨w0, hw⟩ : ∃ w1, w1 = w.alloc (Obj.cells #[Value.slice (some ⟨bN, oN, none⟩) N.length c, Value.slice B E.length c'] 27) := ⟨_, rfl⟩
  rw [← hw]
  have hsz0 : w0.heap.size = w.heap.size + 1 := by rw [hw]; simp
  have HT := hide (show Tr [(w.heap.size, [.slice (some ⟨bN, oN, none⟩) N.length c, .slice B E.length c'])] w w0 from by rw [hw]; exact ⟨by simp [Bx, CellsAt, go_sem, *], by repeat (first | exact kE | exact Ext.refl _ | apply Ext.alloc | apply Ext.drewN | apply Ext.drew | apply Ext.set0 | apply Ext.set1 | apply Ext.set2 | apply Ext.set3 | (refine Ext.setk ?_ (by omega) _) | (apply Ext.snoc; assumption))⟩)
  clear hw
  rw [← hsz0]
  have HSZ := hide hsz0
  clear hsz0
  have kT := HT.out; simp only [Tr, Bx, CellsAt, Nat.reduceAdd, Nat.zero_add, and_true] at kT; obtain ⟨⟨kz0, kf0, kc0_0, kc0_1⟩, kE⟩ := kT
  have HW0 := hide kE
  have HT0 := HT
  clear kz0 kf0 kc0_0 kc0_1 kE
  go_loopw [5, 6] (fun v i wr => ∃ d : Nat, d ≤ 2 * E.length ∧ i = .int .i64 d ∧ Hid (wr.ownsRow w0.heap.size 3 1 v (arR N E k d).length (encN (arR N E k d).reverse)) ∧ Hid (Ext w0 wr)) (fun _ i _ => 2 * E.length - (intOf i).toNat)
  case atStart => exact ⟨0, Nat.zero_le _, rfl, hide (World.ownsRow_lit w0 #[] 0 (Nat.le_refl _) (Nat.zero_le _) rfl), hide ((Ext.refl _).alloc _)⟩
  case round =>
    obtain ⟨d, hd, rfl, HO, HE⟩ := hrel
    have hE := HE.out
    have HT := hide (HT.out.ext hE); clear hE; have kT := HT.out; simp only [Tr, Bx, CellsAt, Nat.reduceAdd, Nat.zero_add, and_true] at kT; obtain ⟨⟨kz0, kf0, kc0_0, kc0_1⟩, kE⟩ := kT
    by_cases hlt : d < 2 * E.length
    · have hlz : (d : Int) < 2 * (E.length : Int) := by omega
      obtain ⟨f, hf⟩ := Int.eq_ofNat_of_zero_le (HK.out.ends hlt).1
      obtain ⟨t, ht⟩ := Int.eq_ofNat_of_zero_le (HK.out.ends (twin_lt hlt)).1
      have htl : t < N.length := by have := (HK.out.ends (twin_lt hlt)).2.1; omega
      have HF := hide hf
      have HTT := hide ht
      have HC := l05Ends_any N E (some ⟨bN, oN, none⟩) B c c' d _ (HW.out.ext kE) hlt
      rw [hf, ht] at HC
      clear hf ht
      by_cases hfk : f = k
      · subst hfk
        have hrl : (arR N E (f : Nat) d).length ≤ 12 := by rw [(arR_perm N E (f : Nat) d).length_eq]; exact HK.out.degree _ _ (by omega)
        obtain ⟨A0, c2, rfl, hc2, hA0, hA1⟩ := own_slice HO.out
        clear hA0 hA1
        go_wp2_with (first | (go_at_call 97; refine HC.mono ?_; rintro e w3 ⟨rfl, hb3⟩; have hsz3 := hb3.size; have hsz2 := HE.out.size; have HB3 := hide hb3; clear hb3) | (at_builtin; refine wpList_append_own _ rfl _ _ 31 rfl w0.heap.size 3 i0 (.int .i64 0) 1 8 Tryz.underlying31 hi hz0 hz1 hz2 rfl (by decide) (.slice A0 (arR N E (f : Nat) d).length c2) (arR N E (f : Nat) d).length (encN (arR N E (f : Nat) d).reverse) rfl (own_ext (own_ext HO.out HB3.out) ((Ext.refl _).alloc _)) ⟨w3.heap.size, 0, none⟩ 1 1 [.int .i64 (d : Int)] rfl rfl (news_new w3 #[.int .i64 (d : Int)] 3) (one_cell _) (by unfold maxLen; omega) (by omega) (by first | (simp; done) | (simp; omega)) ?_; intro v' w4 hown4 hgrow4 hnil))
        have HE4 := hide (Ext.grown ((HE.out.trans HB3.out).alloc _) hgrow4 (own_base HO.out (Nat.le_refl _)))
        obtain ⟨r, hr⟩ : ∃ r, arR N E (f : Nat) d = r := ⟨_, rfl⟩
        rw [hr] at hown4 hrl
        have HO4 := hide (show w4.ownsRow w0.heap.size 3 1 v' (r.length + 1) (encN (midL d [] r [])) from by
          have e : midL d [] r [] = r.reverse ++ [d] := by simp [midL]
          rw [e, encN_append]
          exact hown4)
        have HR := hide hr
        rw [hr]
        clear hown4 hgrow4 hnil hr HO HE HB3 hsz3 hsz2 hc2
        obtain ⟨A1, c3, rfl, hc3, hA0, hA1⟩ := own_slice HO4.out
        cases A1 with
        | none => exact absurd (hA0 rfl) (by omega)
        | some a1 =>
        obtain ⟨g, rfl, hgB, _, _⟩ := hA1 a1 rfl
        clear hA0 hA1 HT
        clear kz0 kf0 kc0_0 kc0_1 kE
        go_loopw [9] (fun vj wi => ∃ (y : Nat) (a b : List Nat), vj = .int .i64 (b.length : Nat) ∧ Hid (InsMid (ltD N E (f : Nat)) d r a b) ∧ Hid (wi.ownsRow w0.heap.size 3 1 (.slice (some ⟨g, 0, none⟩) (r.length + 1) c3) (r.length + 1) (encN (midL y a b []))) ∧ Hid (Ext w0 wi)) (fun vj _ => (intOf vj).toNat)
        case atStart => exact ⟨d, [], r, rfl, hide (InsMid.start _ d r), HO4, HE4⟩
        case round =>
          clear HO4 HE4
          obtain ⟨y, a, b, rfl, HM, HO2, HE2⟩ := hrel
          have HT := hide (HT0.out.ext HE2.out)
          obtain ⟨w2, rfl⟩ : ∃ w2 : World, w2 = wr := ⟨_, rfl⟩
          have kT := HT.out; simp only [Tr, Bx, CellsAt, Nat.reduceAdd, Nat.zero_add, and_true] at kT; obtain ⟨⟨kz0, kf0, kc0_0, kc0_1⟩, kE⟩ := kT
          have hgl := (own_ltg HO2.out).2
          cases b with
          | nil =>
            have cv := own_cellN HO2.out (by rw [midL_length]; have := HM.out.eq; rw [this]; simp; omega) (midL_v y a [] [])
            have f1 := HO2.out.frozenAt 0
            rw [List.length_nil] at cv
            have z5 : (0 : Int) < (r.length : Int) + 1 := by omega
            have hst := HO2.out.stored 0 (.int .i64 (d : Nat))
            have hE5 := hide (HE2.out.set' (g := g) (by omega) 0 (.int .i64 (d : Nat)))
            have HO5 := hide (show (w2.setCell ⟨g, 0, none⟩ (.int .i64 (d : Nat))).ownsRow w0.heap.size 3 1 (.slice (some ⟨g, 0, none⟩) (r.length + 1) c3) (r.length + 1) (encN (a ++ d :: []).reverse) from by
              have h := hst.1
              rw [← encN_set, show midL y a [] [] = midL y a [] [] from rfl, ← List.length_nil (α := Nat), midL_put, midL_end, List.append_nil] at h
              exact h)
            clear hst HO2 HE2
            go_wp2_with fail
            obtain ⟨w6, hw6⟩ : ∃ w6, w6 = w2.setCell ⟨g, 0, none⟩ (.int .i64 (d : Nat)) := ⟨_, rfl⟩
            rw [← hw6] at HO5 hE5 ⊢
            clear hw6
            have HD := hide (show arR N E (f : Nat) (d + 1) = a ++ d :: [] by rw [arR_succ HF.out, HR.out]; exact HM.out.stop_nil)
            have HLL := hide (show (arR N E (f : Nat) (d + 1)).length = r.length + 1 by rw [arR_succ HF.out, HR.out, insR_length])
            go_roundw
            case rel => exact ⟨d + 1, by omega, by go_num, by rw [HLL.out, HD.out]; exact HO5, hE5⟩
            case measure => simp [intOf]; omega
          | cons x b =>
            obtain ⟨j, hj⟩ : ∃ j, b.length = j := ⟨_, rfl⟩
            have HJ := hide hj
            have hrx : x ∈ r := by rw [HM.out.eq]; simp
            rw [← HR.out] at hrx
            have hxd := arR_mem hrx
            have hxl : x < 2 * E.length := by omega
            have hrj : j < r.length := by have := HM.out.eq; rw [this]; simp; omega
            have hll : (midL y a (x :: b) []).length = r.length + 1 := by have := HM.out.eq; rw [midL_length, this]; simp; omega
            have cx := own_cellN HO2.out hll (by have := midL_x y x a b []; rw [hj] at this; exact this)
            have cy := own_cellN HO2.out hll (by have := midL_v y a (x :: b) []; rw [List.length_cons, hj] at this; exact this)
            have f1 := HO2.out.frozenAt (j + 1)
            obtain ⟨tx, htx⟩ := Int.eq_ofNat_of_zero_le (HK.out.ends (twin_lt hxl)).1
            have htxl : tx < N.length := by have := (HK.out.ends (twin_lt hxl)).2.1; omega
            have HCX := fun p : ExtBy w2 => l05Ends_any N E (some ⟨bN, oN, none⟩) B c c' x p.w (HW.out.ext (kE.trans p.h)) hxl
            rw [hxd.2, htx] at HCX
            have HCX := hide HCX
            rw [List.length_cons, hj]
            have z0 : ((j + 1 : Nat) : Int) = (j : Int) + 1 := by omega
            rw [z0]
            clear z0
            obtain ⟨iN, hiN⟩ : ∃ iN, iN = j + 1 := ⟨_, rfl⟩
            rw [← hiN] at cy f1
            have HIJ := hide hiN
            have z1 : decide ((j : Int) + 1 > 0) = true := decide_eq_true (by omega)
            have z2 : ((j : Int) + 1).toNat = iN := by omega
            have z3 : (0 : Int) ≤ (j : Int) + 1 := by omega
            have z4 : (j : Int) < (r.length : Int) := by omega
            have z4' : (j : Int) < (r.length : Int) + 1 := by omega
            have z6 : (0 : Int) < (j : Int) + 1 := by omega
            have z7 : IntKind.i64.wrap (j : Int) = (j : Int) := by rw [IntKind.wrap_i64]; omega
            have z8 : IntKind.i64.wrap ((j : Int) + 1) = (j : Int) + 1 := by rw [IntKind.wrap_i64]; omega
            have z9 : (0 : Int) ≤ (j : Int) := by omega
            have HXD := hide hxd
            have HTX := hide htx
            have HLL := hide hll
            clear hiN hj hrx hxd htx hll
            have qcx := ExtBy.cell (W := w2) hgl cx
            go_wp2_with fail
            have kq0_0 := ExtBy.cell (W := w2) kz0 kc0_0; have kq0_1 := ExtBy.cell (W := w2) kz0 kc0_1; refine wp_region_quietE (by kernel_rfl) (by kernel_rfl) ?_; (repeat (refine WQ.step (fun K hK => ?_); have HK := hide hK; clear hK; go_simp; refine HK.out _ ?_; clear HK K)); (refine WQ.step (fun K hK => ?_); have HK := hide hK; clear hK; go_simp; apply Exists.intro; refine ⟨fun _ => ?_, HK.out _ ?_⟩; (go_at_call 97; refine extby_of (HCX.out _)); clear HK K); (repeat (refine WQ.step (fun K hK => ?_); have HK := hide hK; clear hK; go_simp; refine HK.out _ ?_; clear HK K)); refine WQ.done ?_; intro w7 hw'; obtain ⟨⟨_, hw7⟩, hw''⟩ := hw'; subst hw''; clear kq0_0 kq0_1; have HT := hide (HT.out.ext hw7); have Hw7 := hide hw7; clear hw7 kz0 kf0 kc0_0 kc0_1 kE; have kT := HT.out; simp only [Tr, Bx, CellsAt, Nat.reduceAdd, Nat.zero_add, and_true] at kT; obtain ⟨⟨kz0, kf0, kc0_0, kc0_1⟩, kE⟩ := kT
            clear HCX
            have HO7 := hide (own_ext HO2.out Hw7.out)
            have HE7 := hide (HE2.out.trans Hw7.out)
            have hgl7 := Hw7.out.facts.2.2 g hgl
            have cx7 := (Hw7.out.facts.1 g j hgl).trans cx
            have cy7 := (Hw7.out.facts.1 g iN hgl).trans cy
            have f7 := (Hw7.out.facts.2.1 g iN hgl).trans f1
            clear qcx cx cy f1 hgl HO2 HE2
            have hWN := HW.out.hr.ext kE
            obtain ⟨b', o', hA', hbN, d0, d1⟩ := R2.at_ hWN hk
            injection hA' with hA'
            injection hA' with hA1 hA2 _
            subst hA1 hA2
            obtain ⟨b', o', hA', _, e0, e1⟩ := R2.at_ hWN htl
            injection hA' with hA'
            injection hA' with hA1 hA2 _
            subst hA1 hA2
            obtain ⟨b', o', hA', _, g0, g1⟩ := R2.at_ hWN htxl
            injection hA' with hA'
            injection hA' with hA1 hA2 _
            subst hA1 hA2
            obtain ⟨⟨x1, x2⟩, nx⟩ : ∃ q : P2, N[f] = q := ⟨_, rfl⟩
            obtain ⟨⟨y1, y2⟩, ny⟩ : ∃ q : P2, N[t] = q := ⟨_, rfl⟩
            obtain ⟨⟨v1, v2⟩, nz⟩ : ∃ q : P2, N[tx] = q := ⟨_, rfl⟩
            rw [nx] at d0 d1
            rw [ny] at e0 e1
            rw [nz] at g0 g1
            dsimp only at d0 d1 e0 e1 g0 g1
            have HV : Hid (ltD N E (f : Nat) d x = befN (x1, x2) (y1, y2) (v1, v2)) := hide (by unfold ltD; rw [HTT.out, HTX.out, at2_eq hk, at2_eq htl, at2_eq htxl, nx, ny, nz])
            have q1 := ExtBy.cell (W := w7) hbN d0
            have q2 := ExtBy.cell (W := w7) hbN d1
            have q3 := ExtBy.cell (W := w7) hbN e0
            have q4 := ExtBy.cell (W := w7) hbN e1
            have q5 := ExtBy.cell (W := w7) hbN g0
            have q6 := ExtBy.cell (W := w7) hbN g1
            clear d0 d1 e0 e1 g0 g1 hWN nx ny nz
            have i1 : (f : Int) < (N.length : Int) := by omega
            have i2 : (t : Int) < (N.length : Int) := by omega
            have i3 : (tx : Int) < (N.length : Int) := by omega
            obtain ⟨v, hv⟩ : ∃ v, befN (x1, x2) (y1, y2) (v1, v2) = v := ⟨_, rfl⟩
            have HB := fun p : ExtBy w7 => sIsBeforeAround_any (x1, x2) (y1, y2) (v1, v2) p.w
            rw [hv] at HB
            have HB := hide HB
            have HVV := hide hv
            clear hv
            go_wp2_with fail
            have kq0_0 := ExtBy.cell (W := w7) kz0 kc0_0; have kq0_1 := ExtBy.cell (W := w7) kz0 kc0_1; refine wp_region_quietE (by kernel_rfl) (by kernel_rfl) ?_; (repeat (refine WQ.step (fun K hK => ?_); have HK := hide hK; clear hK; go_simp; refine HK.out _ ?_; clear HK K)); (refine WQ.step (fun K hK => ?_); have HK := hide hK; clear hK; go_simp; apply Exists.intro; refine ⟨fun _ => ?_, HK.out _ ?_⟩; (go_at_call 143; refine extby_of (HB.out _)); clear HK K); (repeat (refine WQ.step (fun K hK => ?_); have HK := hide hK; clear hK; go_simp; refine HK.out _ ?_; clear HK K)); refine WQ.done ?_; intro w8 hw'; obtain ⟨⟨_, hw8⟩, hw''⟩ := hw'; subst hw''; clear kq0_0 kq0_1; have HT := hide (HT.out.ext hw8); have Hw8 := hide hw8; clear hw8 kz0 kf0 kc0_0 kc0_1 kE; have kT := HT.out; simp only [Tr, Bx, CellsAt, Nat.reduceAdd, Nat.zero_add, and_true] at kT; obtain ⟨⟨kz0, kf0, kc0_0, kc0_1⟩, kE⟩ := kT
            clear HB q1 q2 q3 q4 q5 q6
            have HO8 := hide (own_ext HO7.out Hw8.out)
            have HE8 := hide (HE7.out.trans Hw8.out)
            have hgl := Hw8.out.facts.2.2 g hgl7
            have cx := (Hw8.out.facts.1 g j hgl7).trans cx7
            have cy := (Hw8.out.facts.1 g iN hgl7).trans cy7
            have f1 := (Hw8.out.facts.2.1 g iN hgl7).trans f7
            clear cx7 cy7 f7 hgl7 HO7 HE7
            cases v with
            | true =>
              go_wp2_with fail
              have hst := HO8.out.stored (j + 1) (.int .i64 (x : Nat))
              have hE5 := hide (HE8.out.set' (g := g) (by omega) iN (.int .i64 (x : Nat)))
              have HO5 := hide (show (w8.setCell ⟨g, iN, none⟩ (.int .i64 (x : Nat))).ownsRow w0.heap.size 3 1 (.slice (some ⟨g, 0, none⟩) (r.length + 1) c3) (r.length + 1) (encN (midL x (a ++ [x]) b [])) from by
                have h := hst.1
                rw [← encN_set, ← HJ.out, midL_shift2, HJ.out, ← HIJ.out] at h
                exact h)
              clear hst HO8 HE8
              obtain ⟨w6, hw6⟩ : ∃ w6, w6 = w8.setCell ⟨g, iN, none⟩ (.int .i64 (x : Nat)) := ⟨_, rfl⟩
              rw [← hw6] at HO5 hE5 ⊢
              clear hw6
              go_roundw
              case rel => exact ⟨x, a ++ [x], b, by rw [HJ.out], hide (HM.out.go (by rw [HV.out, HVV.out])), HO5, hE5⟩
              case measure => simp [intOf]
            | false =>
              go_wp2_with fail
              have HINS := hide (HM.out.stop (show ltD N E (f : Nat) d x = false by rw [HV.out, HVV.out]))
              have hst := HO8.out.stored (j + 1) (.int .i64 (d : Nat))
              have hE5 := hide (HE8.out.set' (g := g) (by omega) iN (.int .i64 (d : Nat)))
              have HO5 := hide (show (w8.setCell ⟨g, iN, none⟩ (.int .i64 (d : Nat))).ownsRow w0.heap.size 3 1 (.slice (some ⟨g, 0, none⟩) (r.length + 1) c3) (r.length + 1) (encN (a ++ d :: x :: b).reverse) from by
                have h := hst.1
                have e : j + 1 = (x :: b).length := by rw [List.length_cons, HJ.out]
                rw [← encN_set, e, midL_put, midL_end, List.append_nil, ← e, ← HIJ.out] at h
                exact h)
              clear hst HO8 HE8
              obtain ⟨w6, hw6⟩ : ∃ w6, w6 = w8.setCell ⟨g, iN, none⟩ (.int .i64 (d : Nat)) := ⟨_, rfl⟩
              rw [← hw6] at HO5 hE5 ⊢
              clear hw6
              have HD := hide (show arR N E (f : Nat) (d + 1) = a ++ d :: x :: b by rw [arR_succ HF.out, HR.out]; exact HINS.out)
              have HLL := hide (show (arR N E (f : Nat) (d + 1)).length = r.length + 1 by rw [arR_succ HF.out, HR.out, insR_length])
              go_roundw
              case rel => exact ⟨d + 1, by omega, by go_num, by rw [HLL.out, HD.out]; exact HO5, hE5⟩
              case measure => simp [intOf]; omega
      · have h1 : ((f : Int) != (k : Int)) = true := by simp; omega
        have h1' : (f != k) = true := by simp; omega
        have HN := hide hfk
        clear hfk
        go_wp2_with (go_at_call 97; refine HC.mono ?_; rintro e w3 ⟨rfl, hb3⟩)
        have HO3 := hide (own_ext HO.out hb3)
        have HE3 := hide (HE.out.trans hb3)
        clear hb3
        have HD := hide (show arR N E (k : Nat) (d + 1) = arR N E (k : Nat) d from arR_skip (by rw [HF.out]; intro e; exact HN.out (by omega)))
        go_roundw
        case rel => exact ⟨d + 1, by omega, by go_num, by rw [HD.out]; exact HO3, HE3⟩
        case measure => simp [intOf]; omega
    · obtain rfl : d = 2 * E.length := by omega
      have hlz : ¬ ((2 * E.length : Nat) : Int) < 2 * (E.length : Int) := by omega
      have HO2 := hide (show wr.ownsRow w0.heap.size 3 1 _ (aroundL N E k).length (encN (aroundL N E k)) from by
        have h := HO.out
        have hl : (arR N E k (2 * E.length)).length = (aroundL N E k).length := by unfold aroundL; simp
        rw [hl] at h
        exact h)
      clear HO
      obtain ⟨A0, c2, rfl, hc2, hA0, hA1⟩ := own_slice HO2.out
      cases A0 with
      | none => exact absurd (hA0 rfl) (by have := HNE.out; omega)
      | some a0 =>
        obtain ⟨g, rfl, hgB, hgl, _⟩ := hA1 a0 rfl
        clear hA0 hA1
        have hB := HW0.out.size
        go_wp2_with fail
        go_ret
        exact ⟨g, c2, rfl, own_mono HO2.out hB, HW0.out.trans HE.out⟩
end Go.Proofs.YtabgcpoaepafjaaGreat
namespace Go.Proofs.YtabgcpoaepafjaaGreat
open Go.RowKit
theorem idx_ne {l : List Nat} {d k : Nat} (h : k < l.idxOf d) (hk : k < l.length) : l[k] ≠ d := by
  have := List.not_of_lt_findIdx (p := (· == d)) (xs := l) (i := k) (by simpa [List.idxOf] using h)
  simpa using this
theorem idx_at {l : List Nat} {d : Nat} (hm : d ∈ l) : ∃ h : l.idxOf d < l.length, l[l.idxOf d] = d := ⟨List.idxOf_lt_length_of_mem hm, List.getElem_idxOf _⟩
theorem IndexInt_any (l : List Nat) (A : Option Addr) (c d : Nat) (w : World) (hl : l.length ≤ 1048576) (hr : Rds w 1 A l.length (encN l)) (hm : d ∈ l) :
    Calls Tryz.prog 142 #[.slice A l.length c, .int .i64 (d : Nat)] w fun e w' => e = .returned (.int .i64 (l.idxOf d : Nat)) ∧ w = w' := by
  have HR := hide hr
  obtain ⟨hi, hid⟩ := idx_at hm
  have HD := hide hid
  clear hr hid hm
  go_enter Tryz.func142, Tryz.ntmps142
  go_wp2_with fail
  go_loopw [8] (fun i wr => ∃ k : Nat, k ≤ l.idxOf d ∧ i = .int .i64 k ∧ wr = w) (fun i _ => l.length - (intOf i).toNat)
  case atStart => exact ⟨0, Nat.zero_le _, rfl, rfl⟩
  case round =>
    obtain ⟨k, hk, rfl, rfl⟩ := hrel
    have hlt : k < l.length := by omega
    obtain ⟨b, off, rfl, hb, e0⟩ := RN.at_ HR.out rfl hlt
    have x2 : (k : Int) < (l.length : Int) := by omega
    obtain ⟨v, hv⟩ : ∃ v, l[k] = v := ⟨_, rfl⟩
    rw [hv] at e0
    by_cases hkd : k = l.idxOf d
    · have hvd : v = d := by rw [← hv]; simp only [hkd]; exact HD.out
      have HK := hide hkd
      subst hvd
      clear hv hkd hk
      go_wp2_with fail
      go_ret
      exact ⟨ret_int (by rw [← HK.out]), rfl⟩
    · have hne : v ≠ d := by rw [← hv]; exact idx_ne (by omega) hlt
      have h1 : (d == v) = false := by simp; omega
      have h2 : ((d : Int) == (v : Int)) = false := by simp; omega
      have hk2 : k + 1 ≤ l.idxOf d := by omega
      have HK := hide hk2
      clear hv hkd hk hne hk2
      go_wp2_with fail
      go_roundw
      case rel => exact ⟨k + 1, HK.out, by go_num, trivial⟩
      case measure => simp [intOf]; omega
theorem stepIn_get {l : List Nat} {d : Nat} (hm : d ∈ l) (y : Int) : ∃ q : Nat, q < l.length ∧ (((l.idxOf d : Nat) : Int) + y + l.length) % l.length = (q : Int) ∧ l[q]? = some (stepIn l d y) := by
  have h := step_at hm y
  obtain ⟨q, hq⟩ := Int.eq_ofNat_of_zero_le h.2.1
  refine ⟨q, by omega, hq, ?_⟩
  unfold stepIn
  rw [hq, Int.toNat_natCast]
  have : q < l.length := by omega
  simp [this]
set_option maxRecDepth 20000 in
set_option maxHeartbeats 4000000 in
theorem beside_any (N E : List P2) (A B : Option Addr) (c c' d : Nat) (y : Int) (w : World) (hw : WR w N E A B c c') (hok : WinOk N E) (hd : d < 2 * E.length) (hy : y = 1 ∨ y = -1) :
    Calls Tryz.prog 136 #[.agg #[.slice A N.length c, .slice B E.length c'], .int .i64 (d : Nat), .int .i64 y] w fun e w' => e = .returned (.int .i64 (besideN N E d y : Nat)) ∧ Ext w w' := by
  obtain ⟨k, hk⟩ := Int.eq_ofNat_of_zero_le (hok.ends hd).1
  have hkN : k < N.length := by have := (hok.ends hd).2.1; omega
  have hmem : d ∈ aroundL N E (k : Nat) := around_mem.2 ⟨hd, hk⟩
  have hpos : 0 < (aroundL N E (k : Nat)).length := List.length_pos_of_mem hmem
  have hl12 : (aroundL N E (k : Nat)).length ≤ 12 := by rw [around_length]; exact hok.degree _ _ (Nat.le_refl _)
  have HC := fun (W : World) (hE : Ext w W) => dartFrom_any N E A B c c' d W (hw.ext hE) hd
  have HA := fun (W : World) (hE : Ext w W) => around_any N E A B c c' k W (hw.ext hE) hok hkN hpos
  have HI := fun (W : World) (g c2 : Nat) (h : Rds W 1 (some ⟨g, 0, none⟩) (aroundL N E (k : Nat)).length (encN (aroundL N E (k : Nat)))) => IndexInt_any (aroundL N E (k : Nat)) (some ⟨g, 0, none⟩) c2 d W (by omega) h hmem
  obtain ⟨q, hq, hqe, hqg⟩ := stepIn_get hmem y
  have HV : Hid (besideN N E d y = stepIn (aroundL N E (k : Nat)) d y) := hide (by unfold besideN; rw [hk])
  rw [hk] at HC
  obtain ⟨L, hL⟩ : ∃ L, aroundL N E (k : Nat) = L := ⟨_, rfl⟩
  have HVV := hide (show besideN N E d y = stepIn L d y by rw [HV.out, hL])
  rw [hL] at HA HI hpos hl12 hq hqe hqg hmem
  have hix : L.idxOf d < L.length := List.idxOf_lt_length_of_mem hmem
  obtain ⟨u, hu⟩ : ∃ u, stepIn L d y = u := ⟨_, rfl⟩
  rw [hu] at hqg
  have HU := hide hu
  obtain ⟨x, hx⟩ : ∃ x, L.idxOf d = x := ⟨_, rfl⟩
  rw [hx] at HI hqe hix
  obtain ⟨n, hn⟩ : ∃ n, L.length = n := ⟨_, rfl⟩
  rw [hn] at HA HI hpos hl12 hq hqe hix
  have HN := hide hn
  have HC := hide HC
  have HA := hide HA
  have HI := hide HI
  have HQG := hide hqg
  clear hw hok hL HV hmem hk hu hx hqg hn
  have hmod : ((x : Int) + y + n).tmod n = (q : Int) := by
    rw [Int.tmod_eq_emod_of_nonneg (by rcases hy with rfl | rfl <;> omega)]
    exact hqe
  have w1 : IntKind.i64.wrap ((x : Int) + y) = (x : Int) + y := by rw [IntKind.wrap_i64]; rcases hy with rfl | rfl <;> omega
  have w2 : IntKind.i64.wrap ((x : Int) + y + n) = (x : Int) + y + n := by rw [IntKind.wrap_i64]; rcases hy with rfl | rfl <;> omega
  have n0 : ¬ (n : Int) = 0 := by omega
  have n1 : (q : Int) < (n : Int) := by omega
  have n2 : ¬ n = 0 := by omega
  clear hqe hy
  
  go_enter Tryz.func136, Tryz.ntmps136
  go_wp2_with fail
  obtain ⟨w0, hw⟩ : ∃ w1, w1 = w.alloc (Obj.cells #[Value.slice A N.length c, Value.slice B E.length c'] 27) := ⟨_, rfl⟩; rw [← hw]; have kT : Tr [(w.heap.size, [.slice A N.length c, .slice B E.length c'])] w w0 := (by rw [hw]; exact ⟨by (first | (simp [Bx, CellsAt, go_sem, *]; done) | (simp [Bx, CellsAt, go_sem, *]; omega)), by (repeat (first | exact kE | exact Ext.refl _ | apply Ext.alloc | apply Ext.drewN | apply Ext.drew | apply Ext.set0 | apply Ext.set1 | apply Ext.set2 | apply Ext.set3 | (refine Ext.setk ?_ (by omega) _) | (apply Ext.snoc; assumption)))⟩); have HT := hide kT; clear hw kT; have kT := HT.out; simp only [Tr, Bx, CellsAt, Nat.reduceAdd, Nat.zero_add, and_true] at kT; obtain ⟨⟨kz0, kf0, kc0_0, kc0_1⟩, kE⟩ := kT
  have HW0 := hide kE
  go_region_held3 (fun w' => (∀ (q o : Nat), q < w0.heap.size → w'.cell? ⟨q, o, none⟩ = w0.cell? ⟨q, o, none⟩) ∧ Ext w0 w') ((apply ExtS; repeat (first | exact kE | exact Ext.refl _ | apply Ext.alloc | apply Ext.drewN | apply Ext.drew | apply Ext.set0 | apply Ext.set1 | apply Ext.set2 | apply Ext.set3 | (refine Ext.setk ?_ (by omega) _) | (apply Ext.snoc; assumption)))) ((first | (go_at_call 120; refine (HC.out _ (HW0.out.trans (by clear kE; repeat (first | exact kE | exact Ext.refl _ | apply Ext.alloc | apply Ext.drewN | apply Ext.drew | apply Ext.set0 | apply Ext.set1 | apply Ext.set2 | apply Ext.set3 | (refine Ext.setk ?_ (by omega) _) | (apply Ext.snoc; assumption))))).mono ?_; rintro e w3 ⟨rfl, hb3⟩)  |  (go_at_call 141; refine (HA.out _ (HW0.out.trans (by clear kE; repeat (first | exact kE | exact Ext.refl _ | apply Ext.alloc | apply Ext.drewN | apply Ext.drew | apply Ext.set0 | apply Ext.set1 | apply Ext.set2 | apply Ext.set3 | (refine Ext.setk ?_ (by omega) _) | (apply Ext.snoc; assumption))))).mono ?_; rintro e w5 ⟨g, c2, rfl, hown, hb5⟩)))
  have cq := own_cellN hown HN.out HQG.out
  have HIX := HI.out w5 g c2 (Rds.of_own hown)
  have HE5 := hide (HW0.out.trans (((Ext.refl w0).drew.trans hb3).trans hb5))
  clear hown hb3 hb5
  go_wp2_with (go_at_call 142; refine HIX.mono ?_; rintro e w' ⟨rfl, rfl⟩)
  go_ret
  exact ⟨ret_int (by rw [HVV.out, HU.out]), HE5.out⟩
set_option maxRecDepth 20000 in
set_option maxHeartbeats 4000000 in
theorem l05Step_any (N E : List P2) (A B : Option Addr) (c c' d : Nat) (y : Int) (w : World) (hw : WR w N E A B c c') (hok : WinOk N E) (hd : d < 2 * E.length) (hy : y = 1 ∨ y = -1) :
    Calls Tryz.prog 124 #[.agg #[.slice A N.length c, .slice B E.length c'], .int .i64 (d : Nat), .int .i64 y] w fun e w' => e = .returned (.int .i64 (besideN N E d y : Nat)) ∧ Ext w w' := by
  obtain ⟨k, hk⟩ := Int.eq_ofNat_of_zero_le (hok.ends hd).1
  have hkN : k < N.length := by have := (hok.ends hd).2.1; omega
  have hmem : d ∈ aroundL N E (k : Nat) := around_mem.2 ⟨hd, hk⟩
  have hpos : 0 < (aroundL N E (k : Nat)).length := List.length_pos_of_mem hmem
  have hl12 : (aroundL N E (k : Nat)).length ≤ 12 := by rw [around_length]; exact hok.degree _ _ (Nat.le_refl _)
  have HC := fun (W : World) (hE : Ext w W) => l05Ends_any N E A B c c' d W (hw.ext hE) hd
  have HA := fun (W : World) (hE : Ext w W) => l05Around_any N E A B c c' k W (hw.ext hE) hok hkN hpos
  obtain ⟨q, hq, hqe, hqg⟩ := stepIn_get hmem y
  have HV : Hid (besideN N E d y = stepIn (aroundL N E (k : Nat)) d y) := hide (by unfold besideN; rw [hk])
  rw [hk] at HC
  obtain ⟨t, ht⟩ : ∃ t, fromN E (twin d) = t := ⟨_, rfl⟩
  rw [ht] at HC
  obtain ⟨L, hL⟩ : ∃ L, aroundL N E (k : Nat) = L := ⟨_, rfl⟩
  have HVV := hide (show besideN N E d y = stepIn L d y by rw [HV.out, hL])
  rw [hL] at HA hpos hl12 hq hqe hqg hmem
  obtain ⟨hix0, hid⟩ := idx_at hmem
  have HD := hide (show ∀ j (h : j < L.length), j < L.idxOf d → L[j] ≠ d from fun j h h2 => idx_ne h2 h)
  have HD2 := hide (show ∀ h : L.idxOf d < L.length, L[L.idxOf d] = d from fun _ => hid)
  have hix : L.idxOf d < L.length := hix0
  obtain ⟨u, hu⟩ : ∃ u, stepIn L d y = u := ⟨_, rfl⟩
  rw [hu] at hqg
  have HU := hide hu
  clear hid hix0
  obtain ⟨x, hx⟩ : ∃ x, L.idxOf d = x := ⟨_, rfl⟩
  rw [hx] at hqe hix
  have HX := hide hx
  obtain ⟨n, hn⟩ : ∃ n, L.length = n := ⟨_, rfl⟩
  rw [hn] at HA hpos hl12 hq hqe hix
  have HN := hide hn
  have HC := hide HC
  have HA := hide HA
  have HQG := hide hqg
  clear hw hok hL HV hmem hk hu hx hqg hn ht
  have hmod : ((x : Int) + y + n).tmod n = (q : Int) := by
    rw [Int.tmod_eq_emod_of_nonneg (by rcases hy with rfl | rfl <;> omega)]
    exact hqe
  have w1 : IntKind.i64.wrap ((x : Int) + y) = (x : Int) + y := by rw [IntKind.wrap_i64]; rcases hy with rfl | rfl <;> omega
  have w2 : IntKind.i64.wrap ((x : Int) + y + n) = (x : Int) + y + n := by rw [IntKind.wrap_i64]; rcases hy with rfl | rfl <;> omega
  have n0 : ¬ (n : Int) = 0 := by omega
  have n1 : (q : Int) < (n : Int) := by omega
  have n2 : ¬ n = 0 := by omega
  clear hqe hy
  
  go_enter Tryz.func124, Tryz.ntmps124
  go_wp2_with fail
  obtain ⟨w0, hw⟩ : ∃ w1, w1 = w.alloc (Obj.cells #[Value.slice A N.length c, Value.slice B E.length c'] 27) := ⟨_, rfl⟩; rw [← hw]; have kT : Tr [(w.heap.size, [.slice A N.length c, .slice B E.length c'])] w w0 := (by rw [hw]; exact ⟨by (first | (simp [Bx, CellsAt, go_sem, *]; done) | (simp [Bx, CellsAt, go_sem, *]; omega)), by (repeat (first | exact kE | exact Ext.refl _ | apply Ext.alloc | apply Ext.drewN | apply Ext.drew | apply Ext.set0 | apply Ext.set1 | apply Ext.set2 | apply Ext.set3 | (refine Ext.setk ?_ (by omega) _) | (apply Ext.snoc; assumption)))⟩); have HT := hide kT; clear hw kT; have kT := HT.out; simp only [Tr, Bx, CellsAt, Nat.reduceAdd, Nat.zero_add, and_true] at kT; obtain ⟨⟨kz0, kf0, kc0_0, kc0_1⟩, kE⟩ := kT
  refine (HC.out w0 kE).mono ?_; rintro e w3 ⟨rfl, hb⟩; have HT := hide (HT.out.ext hb); have Hw3 := hide hb; clear hb; clear kz0 kf0 kc0_0 kc0_1 kE; have kT := HT.out; simp only [Tr, Bx, CellsAt, Nat.reduceAdd, Nat.zero_add, and_true] at kT; obtain ⟨⟨kz0, kf0, kc0_0, kc0_1⟩, kE⟩ := kT
  go_wp2_with fail
  refine (HA.out _ kE).mono ?_
  rintro e w5 ⟨g, c2, rfl, hown, hb5⟩
  have HO := hide hown
  have HE5 := hide (kE.trans hb5)
  clear hown hb5
  clear kz0 kf0 kc0_0 kc0_1 kE
  go_wp2_with fail
  go_loopw [10] (fun i wr => ∃ j : Nat, j ≤ x ∧ i = .int .i64 j ∧ wr = w5) (fun i _ => n - (intOf i).toNat)
  case atStart => exact ⟨0, Nat.zero_le _, rfl, rfl⟩
  case round =>
    obtain ⟨j, hj, rfl, rfl⟩ := hrel
    have hjn : j < n := by omega
    have hjL : j < L.length := by rw [HN.out]; exact hjn
    have cj := own_cellN (k := j) (v := L[j]) HO.out HN.out (by simp)
    have x2 : (j : Int) < (n : Int) := by omega
    obtain ⟨v, hv⟩ : ∃ v, L[j] = v := ⟨_, rfl⟩
    rw [hv] at cj
    by_cases hjx : j = x
    · have hvd : v = d := by rw [← hv]; have := HD2.out (by rw [HX.out, HN.out]; exact hix); simp only [HX.out] at this; simp only [hjx]; exact this
      subst hvd
      subst hjx
      clear hv hj
      have cq := own_cellN HO.out HN.out HQG.out
      go_wp2_with fail
      go_ret
      exact ⟨ret_int (by rw [HVV.out, HU.out]), HE5.out⟩
    · have hne : v ≠ d := by rw [← hv]; exact HD.out j hjL (by rw [HX.out]; omega)
      have h1 : (v == d) = false := by simp; omega
      have h2 : ((v : Int) == (d : Int)) = false := by simp; omega
      have hk2 : j + 1 ≤ x := by omega
      have HK := hide hk2
      clear hv hjx hj hne hk2 hjL
      go_wp2_with fail
      go_roundw
      case rel => exact ⟨j + 1, HK.out, by go_num, trivial⟩
      case measure => simp [intOf]; omega
theorem l06Next_any (N E : List P2) (A B : Option Addr) (c c' d : Nat) (w : World) (hw : WR w N E A B c c') (hok : WinOk N E) (hd : d < 2 * E.length) :
    Calls Tryz.prog 103 #[.agg #[.slice A N.length c, .slice B E.length c'], .int .i64 (d : Nat)] w fun e w' => e = .returned (.int .i64 (nextN N E d : Nat)) ∧ Ext w w' := by
  have hm := hok.m
  have xd := xor_twin d (by omega)
  have HC := fun (W : World) (hE : Ext w W) => l05Step_any N E A B c c' (twin d) (-1) W (hw.ext hE) hok (twin_lt hd) (.inr rfl)
  have HC := hide HC
  have HN := hide (show besideN N E (twin d) (-1) = nextN N E d from rfl)
  clear hw hok
  generalize besideN N E (twin d) (-1) = u at HC HN
  generalize twin d = td at *
  go_enter Tryz.func103, Tryz.ntmps103
  go_wp2_with (go_at_call 124; refine (HC.out _ (by repeat (first | exact kE | exact Ext.refl _ | apply Ext.alloc | apply Ext.drewN | apply Ext.drew | apply Ext.set0 | apply Ext.set1 | apply Ext.set2 | apply Ext.set3 | (refine Ext.setk ?_ (by omega) _) | (apply Ext.snoc; assumption)))).mono ?_; rintro e w3 ⟨rfl, hb3⟩)
  go_ret
  exact ⟨ret_int (by rw [HN.out]), by repeat (first | exact kE | exact Ext.refl _ | apply Ext.alloc | apply Ext.drewN | apply Ext.drew | apply Ext.set0 | apply Ext.set1 | apply Ext.set2 | apply Ext.set3 | (refine Ext.setk ?_ (by omega) _) | (apply Ext.snoc; assumption))⟩
end Go.Proofs.YtabgcpoaepafjaaGreat
namespace Go.Proofs.YtabgcpoaepafjaaGreat
open Go.RowKit
def lenOf : Value → Nat
  | .slice _ n _ => n
  | _ => 0
set_option maxRecDepth 20000 in
set_option maxHeartbeats 4000000 in
theorem walk_any (N E : List P2) (A B : Option Addr) (c c' d : Nat) (w : World) (hw : WR w N E A B c c') (hok : WinOk N E) (hd : d < 2 * E.length) :
    Calls Tryz.prog 123 #[.agg #[.slice A N.length c, .slice B E.length c'], .int .i64 (d : Nat)] w fun e w' => ∃ g c2, e = .returned (.slice (some ⟨g, 0, none⟩) (walkL (nextN N E) (2 * E.length) d).length c2) ∧ w'.ownsRow w.heap.size 3 1 (.slice (some ⟨g, 0, none⟩) (walkL (nextN N E) (2 * E.length) d).length c2) (walkL (nextN N E) (2 * E.length) d).length (encN (walkL (nextN N E) (2 * E.length) d)) ∧ Ext w w' := by
  obtain ⟨i0, hi, hz0, hz1, hz2⟩ := info_parts int_info
  obtain ⟨p, hp1, hp2, hp3, hp4, hp5⟩ := (next_inj N E).walk hd
  have hlen : (walkL (nextN N E) (2 * E.length) d).length = p := by rw [hp5]; simp
  have hm := hok.m
  have HW := hide hw
  have HK := hide hok
  have hlt : ∀ k, it (nextN N E) k d < 2 * E.length := (next_inj N E).it_lt hd
  have HLT := hide hlt
  have HP3 := hide hp3
  have HP4 := hide hp4
  have HP5 := hide hp5
  rw [hlen]
  clear hw hok hlt hp3 hp4 hp5 hlen
  have HC := hide (show ∀ (W : World) (k : Nat), Ext w W → Calls Tryz.prog 136 #[.agg #[.slice A N.length c, .slice B E.length c'], .int .i64 (twin (it (nextN N E) k d) : Nat), .int .i64 (-1)] W fun e w' => e = .returned (.int .i64 (it (nextN N E) (k + 1) d : Nat)) ∧ Ext W w' from fun W k hE => by have := beside_any N E A B c c' (twin (it (nextN N E) k d)) (-1) W (HW.out.ext hE) HK.out (twin_lt (HLT.out k)) (.inr rfl); exact this)
  have hx : ∀ k, bits .xor .i64 ((it (nextN N E) k d : Nat) : Int) 1 = ((twin (it (nextN N E) k d) : Nat) : Int) := fun k => xor_twin _ (by have := HLT.out k; omega)
  have hx0 : bits .xor .i64 ((d : Nat) : Int) 1 = ((twin d : Nat) : Int) := xor_twin _ (by omega)
  have HX := hide hx
  clear hx
  
  go_enter Tryz.func123, Tryz.ntmps123
  go_wp2_with (go_at_call 136; refine (HC.out _ 0 (by repeat (first | exact kE | exact Ext.refl _ | apply Ext.alloc | apply Ext.drewN | apply Ext.drew | apply Ext.set0 | apply Ext.set1 | apply Ext.set2 | apply Ext.set3 | (refine Ext.setk ?_ (by omega) _) | (apply Ext.snoc; assumption)))).mono ?_; rintro e w3 ⟨rfl, hb3⟩)
  obtain ⟨w0, hw⟩ : ∃ w1, w1 = w.alloc (Obj.cells #[Value.slice A N.length c, Value.slice B E.length c'] 27) := ⟨_, rfl⟩
  rw [← hw] at hb3
  have hsz0 : w0.heap.size = w.heap.size + 1 := by rw [hw]; simp
  have HT := hide (show Tr [(w.heap.size, [.slice A N.length c, .slice B E.length c'])] w w0 from by rw [hw]; exact ⟨by simp [Bx, CellsAt, go_sem, *], by repeat (first | exact kE | exact Ext.refl _ | apply Ext.alloc | apply Ext.drewN | apply Ext.drew | apply Ext.set0 | apply Ext.set1 | apply Ext.set2 | apply Ext.set3 | (refine Ext.setk ?_ (by omega) _) | (apply Ext.snoc; assumption))⟩)
  clear hw
  rw [← hsz0]
  have HSZ := hide hsz0
  clear hsz0
  have kT := HT.out; simp only [Tr, Bx, CellsAt, Nat.reduceAdd, Nat.zero_add, and_true] at kT; obtain ⟨⟨kz0, kf0, kc0_0, kc0_1⟩, kE⟩ := kT
  have HW0 := hide kE
  have HT0 := HT
  clear HT
  clear kz0 kf0 kc0_0 kc0_1 kE
  have HO3 := hide (own_ext (World.ownsRow_lit (e := 3) (size := 1) w0 #[.int .i64 (d : Nat)] 1 (Nat.le_refl _) (by unfold maxLen; omega) rfl) hb3)
  have HE3 := hide ((((Ext.refl w0).alloc _).trans hb3))
  clear hb3
  go_loopw [5, 6] (fun v i wr => ∃ k : Nat, 1 ≤ k ∧ k ≤ p ∧ i = .int .i64 (it (nextN N E) k d : Nat) ∧ Hid (wr.ownsRow w0.heap.size 3 1 v k (encN ((List.range k).map fun j => it (nextN N E) j d))) ∧ Hid (Ext w0 wr)) (fun v _ _ => p - lenOf v)
  case atStart => exact ⟨1, Nat.le_refl _, hp1, rfl, HO3, HE3⟩
  case round =>
    clear HO3 HE3 hx0
    obtain ⟨k, hk1, hk2, rfl, HO, HE⟩ := hrel
    have HT := hide (HT0.out.ext HE.out)
    have kT := HT.out; simp only [Tr, Bx, CellsAt, Nat.reduceAdd, Nat.zero_add, and_true] at kT; obtain ⟨⟨kz0, kf0, kc0_0, kc0_1⟩, kE⟩ := kT
    have xk := HX.out k
    have hl := HLT.out k
    have HCk := hide (HC.out · k)
    by_cases hkp : k = p
    · subst hkp
      have HLL := hide HP3.out
      have e3 := HP3.out
      obtain ⟨A0, c2, rfl, hc2, hA0, hA1⟩ := own_slice HO.out
      cases A0 with
      | none => exact absurd (hA0 rfl) (by omega)
      | some a0 =>
        obtain ⟨g, rfl, hgB, hgl, _⟩ := hA1 a0 rfl
        clear hA0 hA1
        rw [e3]
        clear e3 xk hl
        go_wp2_with fail
        go_ret
        exact ⟨g, c2, rfl, by rw [HP5.out]; exact own_mono HO.out HW0.out.size, HW0.out.trans HE.out⟩
    · have hne := HP4.out k hk1 (by omega)
      have hsz2 := HE.out.size
      have HD := hide (show encN ((List.range (k + 1)).map fun j => it (nextN N E) j d) = encN ((List.range k).map fun j => it (nextN N E) j d) ++ [.int .i64 (it (nextN N E) k d : Nat)] by rw [List.range_succ, List.map_append, encN_append]; rfl)
      have HLk := hide (show ((List.range k).map fun j => it (nextN N E) j d).length = k by simp)
      obtain ⟨u, hu⟩ : ∃ u, it (nextN N E) k d = u := ⟨_, rfl⟩
      rw [hu] at xk hl hne HD HCk ⊢
      have n1 : (u != d) = true := by simp; exact hne
      have n2 : ((u : Int) != (d : Int)) = true := by simp; omega
      have HU := hide hu
      clear hu hne
      obtain ⟨A0, c2, rfl, hc2, hA0, hA1⟩ := own_slice HO.out
      clear hA0 hA1
      go_wp2_with (first | (at_builtin; refine wpList_append_own _ rfl _ _ 31 rfl w0.heap.size 3 i0 (.int .i64 0) 1 8 Tryz.underlying31 hi hz0 hz1 hz2 rfl (by decide) (.slice A0 k c2) k (encN ((List.range k).map fun j => it (nextN N E) j d)) rfl (own_ext HO.out ((Ext.refl _).alloc _)) ⟨wr.heap.size, 0, none⟩ 1 1 [.int .i64 (u : Int)] rfl rfl (news_new wr #[.int .i64 (u : Int)] 3) (one_cell _) (by unfold maxLen; omega) (by omega) (by first | (simp; done) | (simp; omega)) ?_; intro v' w4 hown4 hgrow4 hnil; have E4 := hide (Ext.grown (HE.out.alloc _) hgrow4 (own_base HO.out (Nat.le_refl _))); have HT4 := hide (HT0.out.ext E4.out); have HO4 := hide hown4; clear hown4 hgrow4 hnil HT kz0 kf0 kc0_0 kc0_1 kE; have HT := HT4; clear HT4; have kT := HT.out; simp only [Tr, Bx, CellsAt, Nat.reduceAdd, Nat.zero_add, and_true] at kT; obtain ⟨⟨kz0, kf0, kc0_0, kc0_1⟩, kE⟩ := kT) | (go_at_call 136; refine (HCk.out _ kE).mono ?_; rintro e w6 ⟨rfl, hb6⟩))
      obtain ⟨A1, c3, rfl, hc3, _, _⟩ := own_slice HO4.out
      have HO6 := hide (own_ext HO4.out hb6)
      have E6 := hide (E4.out.trans hb6)
      clear hb6
      go_roundw
      case rel => exact ⟨k + 1, by omega, by omega, rfl, hide (by rw [HD.out]; exact HO6.out), E6⟩
      case measure => simp [lenOf]; omega
set_option maxRecDepth 20000 in
set_option maxHeartbeats 4000000 in
theorem l06Walk_any (N E : List P2) (A B : Option Addr) (c c' d : Nat) (w : World) (hw : WR w N E A B c c') (hok : WinOk N E) (hd : d < 2 * E.length) :
    Calls Tryz.prog 64 #[.agg #[.slice A N.length c, .slice B E.length c'], .int .i64 (d : Nat)] w fun e w' => ∃ g c2, e = .returned (.slice (some ⟨g, 0, none⟩) (walkL (nextN N E) (2 * E.length) d).length c2) ∧ w'.ownsRow w.heap.size 3 1 (.slice (some ⟨g, 0, none⟩) (walkL (nextN N E) (2 * E.length) d).length c2) (walkL (nextN N E) (2 * E.length) d).length (encN (walkL (nextN N E) (2 * E.length) d)) ∧ Ext w w' := by
  obtain ⟨i0, hi, hz0, hz1, hz2⟩ := info_parts int_info
  obtain ⟨p, hp1, hp2, hp3, hp4, hp5⟩ := (next_inj N E).walk hd
  have hlen : (walkL (nextN N E) (2 * E.length) d).length = p := by rw [hp5]; simp
  have hm := hok.m
  have HW := hide hw
  have HK := hide hok
  have hlt : ∀ k, it (nextN N E) k d < 2 * E.length := (next_inj N E).it_lt hd
  have HLT := hide hlt
  have HP3 := hide hp3
  have HP4 := hide hp4
  have HP5 := hide hp5
  rw [hlen]
  clear hw hok hlt hp3 hp4 hp5 hlen
  have HC := hide (show ∀ (W : World) (k : Nat), Ext w W → Calls Tryz.prog 103 #[.agg #[.slice A N.length c, .slice B E.length c'], .int .i64 (it (nextN N E) k d : Nat)] W fun e w' => e = .returned (.int .i64 (it (nextN N E) (k + 1) d : Nat)) ∧ Ext W w' from fun W k hE => by have := l06Next_any N E A B c c' (it (nextN N E) k d) W (HW.out.ext hE) HK.out (HLT.out k); exact this)
  have hx : ∀ k, bits .xor .i64 ((it (nextN N E) k d : Nat) : Int) 1 = ((twin (it (nextN N E) k d) : Nat) : Int) := fun k => xor_twin _ (by have := HLT.out k; omega)
  have hx0 : bits .xor .i64 ((d : Nat) : Int) 1 = ((twin d : Nat) : Int) := xor_twin _ (by omega)
  have HX := hide hx
  clear hx
  
  go_enter Tryz.func64, Tryz.ntmps64
  go_wp2_with (go_at_call 103; refine (HC.out _ 0 (by repeat (first | exact kE | exact Ext.refl _ | apply Ext.alloc | apply Ext.drewN | apply Ext.drew | apply Ext.set0 | apply Ext.set1 | apply Ext.set2 | apply Ext.set3 | (refine Ext.setk ?_ (by omega) _) | (apply Ext.snoc; assumption)))).mono ?_; rintro e w3 ⟨rfl, hb3⟩)
  obtain ⟨w0, hw⟩ : ∃ w1, w1 = w.alloc (Obj.cells #[Value.slice A N.length c, Value.slice B E.length c'] 27) := ⟨_, rfl⟩
  rw [← hw] at hb3
  have hsz0 : w0.heap.size = w.heap.size + 1 := by rw [hw]; simp
  have HT := hide (show Tr [(w.heap.size, [.slice A N.length c, .slice B E.length c'])] w w0 from by rw [hw]; exact ⟨by simp [Bx, CellsAt, go_sem, *], by repeat (first | exact kE | exact Ext.refl _ | apply Ext.alloc | apply Ext.drewN | apply Ext.drew | apply Ext.set0 | apply Ext.set1 | apply Ext.set2 | apply Ext.set3 | (refine Ext.setk ?_ (by omega) _) | (apply Ext.snoc; assumption))⟩)
  clear hw
  rw [← hsz0]
  have HSZ := hide hsz0
  clear hsz0
  have kT := HT.out; simp only [Tr, Bx, CellsAt, Nat.reduceAdd, Nat.zero_add, and_true] at kT; obtain ⟨⟨kz0, kf0, kc0_0, kc0_1⟩, kE⟩ := kT
  have HW0 := hide kE
  have HT0 := HT
  clear HT
  clear kz0 kf0 kc0_0 kc0_1 kE
  have HO3 := hide (own_ext (World.ownsRow_lit (e := 3) (size := 1) w0 #[.int .i64 (d : Nat)] 1 (Nat.le_refl _) (by unfold maxLen; omega) rfl) hb3)
  have HE3 := hide ((((Ext.refl w0).alloc _).trans hb3))
  clear hb3
  go_loopw [5, 6] (fun v i wr => ∃ k : Nat, 1 ≤ k ∧ k ≤ p ∧ i = .int .i64 (it (nextN N E) k d : Nat) ∧ Hid (wr.ownsRow w0.heap.size 3 1 v k (encN ((List.range k).map fun j => it (nextN N E) j d))) ∧ Hid (Ext w0 wr)) (fun v _ _ => p - lenOf v)
  case atStart => exact ⟨1, Nat.le_refl _, hp1, rfl, HO3, HE3⟩
  case round =>
    clear HO3 HE3 hx0
    obtain ⟨k, hk1, hk2, rfl, HO, HE⟩ := hrel
    have HT := hide (HT0.out.ext HE.out)
    have kT := HT.out; simp only [Tr, Bx, CellsAt, Nat.reduceAdd, Nat.zero_add, and_true] at kT; obtain ⟨⟨kz0, kf0, kc0_0, kc0_1⟩, kE⟩ := kT
    have xk := HX.out k
    have hl := HLT.out k
    have HCk := hide (HC.out · k)
    by_cases hkp : k = p
    · subst hkp
      have HLL := hide HP3.out
      have e3 := HP3.out
      obtain ⟨A0, c2, rfl, hc2, hA0, hA1⟩ := own_slice HO.out
      cases A0 with
      | none => exact absurd (hA0 rfl) (by omega)
      | some a0 =>
        obtain ⟨g, rfl, hgB, hgl, _⟩ := hA1 a0 rfl
        clear hA0 hA1
        rw [e3]
        clear e3 xk hl
        go_wp2_with fail
        go_ret
        exact ⟨g, c2, rfl, by rw [HP5.out]; exact own_mono HO.out HW0.out.size, HW0.out.trans HE.out⟩
    · have hne := HP4.out k hk1 (by omega)
      have hsz2 := HE.out.size
      have HD := hide (show encN ((List.range (k + 1)).map fun j => it (nextN N E) j d) = encN ((List.range k).map fun j => it (nextN N E) j d) ++ [.int .i64 (it (nextN N E) k d : Nat)] by rw [List.range_succ, List.map_append, encN_append]; rfl)
      have HLk := hide (show ((List.range k).map fun j => it (nextN N E) j d).length = k by simp)
      obtain ⟨u, hu⟩ : ∃ u, it (nextN N E) k d = u := ⟨_, rfl⟩
      rw [hu] at xk hl hne HD HCk ⊢
      have n1 : (u != d) = true := by simp; exact hne
      have n2 : ((u : Int) != (d : Int)) = true := by simp; omega
      have HU := hide hu
      clear hu hne
      obtain ⟨A0, c2, rfl, hc2, hA0, hA1⟩ := own_slice HO.out
      clear hA0 hA1
      go_wp2_with (first | (at_builtin; refine wpList_append_own _ rfl _ _ 31 rfl w0.heap.size 3 i0 (.int .i64 0) 1 8 Tryz.underlying31 hi hz0 hz1 hz2 rfl (by decide) (.slice A0 k c2) k (encN ((List.range k).map fun j => it (nextN N E) j d)) rfl (own_ext HO.out ((Ext.refl _).alloc _)) ⟨wr.heap.size, 0, none⟩ 1 1 [.int .i64 (u : Int)] rfl rfl (news_new wr #[.int .i64 (u : Int)] 3) (one_cell _) (by unfold maxLen; omega) (by omega) (by first | (simp; done) | (simp; omega)) ?_; intro v' w4 hown4 hgrow4 hnil; have E4 := hide (Ext.grown (HE.out.alloc _) hgrow4 (own_base HO.out (Nat.le_refl _))); have HT4 := hide (HT0.out.ext E4.out); have HO4 := hide hown4; clear hown4 hgrow4 hnil HT kz0 kf0 kc0_0 kc0_1 kE; have HT := HT4; clear HT4; have kT := HT.out; simp only [Tr, Bx, CellsAt, Nat.reduceAdd, Nat.zero_add, and_true] at kT; obtain ⟨⟨kz0, kf0, kc0_0, kc0_1⟩, kE⟩ := kT) | (go_at_call 103; refine (HCk.out _ kE).mono ?_; rintro e w6 ⟨rfl, hb6⟩))
      obtain ⟨A1, c3, rfl, hc3, _, _⟩ := own_slice HO4.out
      have HO6 := hide (own_ext HO4.out hb6)
      have E6 := hide (E4.out.trans hb6)
      clear hb6
      go_roundw
      case rel => exact ⟨k + 1, by omega, by omega, rfl, hide (by rw [HD.out]; exact HO6.out), E6⟩
      case measure => simp [lenOf]; omega
end Go.Proofs.YtabgcpoaepafjaaGreat
