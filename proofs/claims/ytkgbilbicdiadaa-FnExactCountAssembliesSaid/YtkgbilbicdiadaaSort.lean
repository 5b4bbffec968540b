/- Walks of slices.SortFunc at the darts around a node (at most 12 of them). -/
import Derived.Test.YtkgbilbicdiadaaIns
import Derived.Test.YtkgbilbicdiadaaTrack
import Derived.Test.YtkgbilbicdiadaaQuietE
import Derived.Test.YtkgbilbicdiadaaNodes
import Derived.BigRegion
set_option linter.unusedSimpArgs false
set_option linter.unusedVariables false
namespace Go.Proofs.Ytkgbilbicdiadaa
open Go.RowKit

theorem insAll_perm (lt : Nat → Nat → Bool) (l : List Nat) : ∀ i, i ≤ l.length → (insAll lt (l.take i)).Perm (l.take i)
  | 0, _ => .refl _
  | i + 1, h => by
    rw [insAll_take_succ lt l (show i < l.length by omega)]
    refine (insR_perm lt _ _).trans ?_
    rw [List.take_succ_eq_append_getElem (show i < l.length by omega)]
    exact ((insAll_perm lt l i (by omega)).cons _).trans (List.perm_append_singleton _ _).symm
theorem insAll_mem {lt : Nat → Nat → Bool} {l : List Nat} {i x : Nat} (h : i ≤ l.length) (hx : x ∈ insAll lt (l.take i)) : x ∈ l := List.mem_of_mem_take ((insAll_perm lt l i h).mem_iff.1 hx)
theorem ins_start (lt : Nat → Nat → Bool) (l : List Nat) (h : 0 < l.length) : (insAll lt (l.take 1)).reverse ++ l.drop 1 = l := by
  cases l with
  | nil => simp at h
  | cons a t => simp [insAll, insR]
theorem ins_mid (lt : Nat → Nat → Bool) (l : List Nat) {i : Nat} (h : i < l.length) : (insAll lt (l.take i)).reverse ++ l.drop i = midL l[i] [] (insAll lt (l.take i)) (l.drop (i + 1)) := by
  rw [List.drop_eq_getElem_cons h]
  simp [midL]
theorem ins_done (lt : Nat → Nat → Bool) (l : List Nat) {i : Nat} (h : i < l.length) {a b : List Nat} (he : insR lt l[i] (insAll lt (l.take i)) = a ++ l[i] :: b) : midL l[i] a b (l.drop (i + 1)) = (insAll lt (l.take (i + 1))).reverse ++ l.drop (i + 1) := by
  rw [midL_end, insAll_take_succ lt l h, he]
theorem own_cellN {w : World} {B g n c k : Nat} {T : TypeId} {L : List Nat} {v : Nat} (h : w.ownsRow B T 1 (.slice (some ⟨g, 0, none⟩) n c) n (encN L)) (hL : L.length = n) (hk : L[k]? = some v) : w.cell? ⟨g, k, none⟩ = some (.int .i64 (v : Nat)) := by
  have hlt : k < L.length := (List.getElem?_eq_some_iff.1 hk).1
  rw [h.cellAt k (by omega)]
  simp [encN, hk]
theorem own_ltg {w : World} {B g n c : Nat} {T : TypeId} {xs : List Value} (h : w.ownsRow B T 1 (.slice (some ⟨g, 0, none⟩) n c) n xs) : B ≤ g ∧ g < w.heap.size := h.lt g rfl
theorem own_swap {w : World} {B g n c : Nat} {T : TypeId} {v x : Nat} {a b rest : List Nat} (h : w.ownsRow B T 1 (.slice (some ⟨g, 0, none⟩) n c) n (encN (midL v a (x :: b) rest))) {w0 : World} (hE : Ext w0 w) (hB : w0.heap.size ≤ B) :
    ((w.setCell ⟨g, b.length + 1, none⟩ (.int .i64 (x : Nat))).setCell ⟨g, b.length, none⟩ (.int .i64 (v : Nat))).ownsRow B T 1 (.slice (some ⟨g, 0, none⟩) n c) n (encN (midL v (a ++ [x]) b rest)) ∧ Ext w0 ((w.setCell ⟨g, b.length + 1, none⟩ (.int .i64 (x : Nat))).setCell ⟨g, b.length, none⟩ (.int .i64 (v : Nat))) := by
  have hg := own_ltg h
  refine ⟨?_, (hE.setk (by omega) _).setk (by omega) _⟩
  have h1 := (((h.stored (b.length + 1) (.int .i64 (x : Nat))).1).stored b.length (.int .i64 (v : Nat))).1
  rw [← encN_set, ← encN_set, midL_swap] at h1
  exact h1
/-- What is asked of the order's function. -/
def CmpE (g : Nat) (cb : Array Value) (cf : Nat → Nat → Int) (l : List Nat) (w0 : World) : Prop :=
  ∀ (W : World) (d e : Nat), Ext w0 W → d ∈ l → e ∈ l → Calls Try.prog g (#[.int .i64 (d : Nat), .int .i64 (e : Nat)] ++ cb) W fun x W' => x = .returned (.int .i64 (cf d e)) ∧ Ext W W'
set_option maxRecDepth 20000 in
set_option maxHeartbeats 4000000 in
theorem insSort_any (lt : Nat → Nat → Bool) (cf : Nat → Nat → Int) (l : List Nat) (cb : Array Value) (B g c : Nat) (w0 w : World) (hcf : ∀ d e, decide (cf d e < 0) = lt d e) (hl : l.length ≤ 12) (hpos : 0 < l.length) (hB : w0.heap.size ≤ B)
    (hcmp : CmpE 180 cb cf l w0) (hE : Ext w0 w) (hown : w.ownsRow B 3 1 (.slice (some ⟨g, 0, none⟩) l.length c) l.length (encN l)) :
    Calls Try.prog 187 #[.slice (some ⟨g, 0, none⟩) l.length c, .int .i64 0, .int .i64 (l.length : Nat), .func (.func 180) #[] cb] w fun x w' => x = .returned (.tuple #[]) ∧ w'.ownsRow B 3 1 (.slice (some ⟨g, 0, none⟩) l.length c) l.length (encN (insAll lt l).reverse) ∧ Ext w0 w' := by
  have HO := hide hown
  have HC := hide hcmp
  have HF := hide hcf
  have HB := hide hB
  have HE := hide hE
  clear hown hcmp hcf hB hE
  go_enter Try.func187, Try.ntmps187
  go_wp2_with fail
  go_loopw [8] (fun vi wr => ∃ i : Nat, 1 ≤ i ∧ i ≤ l.length ∧ vi = .int .i64 i ∧ Hid (wr.ownsRow B 3 1 (.slice (some ⟨g, 0, none⟩) l.length c) l.length (encN ((insAll lt (l.take i)).reverse ++ l.drop i))) ∧ Hid (Ext w0 wr)) (fun vi _ => l.length - (intOf vi).toNat)
  case atStart => exact ⟨1, Nat.le_refl _, hpos, by go_num, by rw [ins_start lt l hpos]; exact HO, HE⟩
  case round =>
    clear HO HE
    obtain ⟨i, hi1, hi2, rfl, HO, HE⟩ := hrel
    by_cases hlt : i < l.length
    · have hltz : (i : Int) < (l.length : Int) := by omega
      obtain ⟨v, hv⟩ : ∃ v, l[i] = v := ⟨_, rfl⟩
      have HV := hide hv
      clear hv
      obtain ⟨r, hr⟩ : ∃ r, insAll lt (l.take i) = r := ⟨_, rfl⟩
      have HR := hide hr
      clear hr
      obtain ⟨rest, hrest⟩ : ∃ r, l.drop (i + 1) = r := ⟨_, rfl⟩
      have HS := hide hrest
      clear hrest
      have HL : Hid (r.length = i ∧ rest.length + (i + 1) = l.length) := hide ⟨by rw [← HR.out]; exact insAll_length lt l i (by omega), by rw [← HS.out, List.length_drop]; omega⟩
      go_wp2_with fail
      go_loopw [9] (fun vj wi => ∃ a b : List Nat, vj = .int .i64 (b.length : Nat) ∧ Hid (InsMid lt v r a b) ∧ Hid (wi.ownsRow B 3 1 (.slice (some ⟨g, 0, none⟩) l.length c) l.length (encN (midL v a b rest))) ∧ Hid (Ext w0 wi)) (fun vj _ => (intOf vj).toNat)
      case atStart => exact ⟨[], r, by rw [HL.out.1], hide (InsMid.start lt v r), hide (by have := HO.out; rw [ins_mid lt l hlt, HV.out, HR.out, HS.out] at this; exact this), HE⟩
      case round =>
        clear HO HE
        obtain ⟨a, b, rfl, HM, HO, HE⟩ := hrel
        cases b with
        | nil =>
          have hg : decide ((0 : Int) < 0) = false := rfl
          go_wp2_with fail
          
          refine wp_region_quietE (by kernel_rfl) (by kernel_rfl) ?_; (repeat (refine WQ.step (fun K hK => ?_); have HK := hide hK; clear hK; go_simp; refine HK.out _ ?_; clear HK K)); refine WQ.done ?_; intro w2 hw'; obtain ⟨⟨_, hw2⟩, hw''⟩ := hw'; subst hw''
          have HE2 := hide (HE.out.trans hw2)
          have HO2 := hide (own_ext HO.out hw2)
          clear hw2 HO HE
          go_wp2_with fail
          go_roundw
          case rel => exact ⟨i + 1, by omega, by omega, by go_num, hide (by have := HO2.out; rw [← ins_done lt l hlt (a := a) (b := []) (by rw [HV.out, HR.out]; exact HM.out.stop_nil), HV.out, HS.out]; exact this), HE2⟩
          case measure => simp [intOf]; omega
        | cons x b =>
          obtain ⟨j, hj⟩ : ∃ j, b.length = j := ⟨_, rfl⟩
          have HJ := hide hj
          have hle : a.length + (b.length + 1) = i := by have := HM.out.eq; have h2 := HL.out.1; rw [this] at h2; simp at h2; omega
          have hll : (midL v a (x :: b) rest).length = l.length := by rw [midL_length]; have := HL.out.2; simp; omega
          have hv0 : (midL v a (x :: b) rest)[j + 1]? = some v := by have := midL_v v a (x :: b) rest; rw [List.length_cons, hj] at this; exact this
          have hx0 : (midL v a (x :: b) rest)[j]? = some x := by have := midL_x v x a b rest; rw [hj] at this; exact this
          have hjn : j + 1 < l.length := by omega
          have cv := own_cellN HO.out hll hv0
          have cx := own_cellN HO.out hll hx0
          have hvl : v ∈ l := by rw [← HV.out]; exact List.getElem_mem _
          have hxl : x ∈ l := insAll_mem (lt := lt) (i := i) (by omega) (by rw [HR.out, HM.out.eq]; simp)
          have hg := (own_ltg HO.out).2
          have f1 := HO.out.frozenAt (j + 1)
          have f2 := HO.out.frozenAt j
          rw [List.length_cons, hj]
          clear hv0 hx0 hll hj hle
          have HIN := hide (And.intro hvl hxl)
          clear hvl hxl
          have qcv := ExtBy.cell (W := wr) hg cv
          have qcx := ExtBy.cell (W := wr) hg cx
          have z0 : ((j + 1 : Nat) : Int) = (j : Int) + 1 := by omega
          rw [z0]
          clear z0
          obtain ⟨iN, hiN⟩ : ∃ iN, iN = j + 1 := ⟨_, rfl⟩
          rw [← hiN] at cv f1 qcv
          have HIJ := hide hiN
          have z1 : decide ((j : Int) + 1 > 0) = true := decide_eq_true (by omega)
          have z2 : ((j : Int) + 1).toNat = iN := by omega
          have z3 : (0 : Int) ≤ (j : Int) + 1 := by omega
          have z4 : (j : Int) + 1 < (l.length : Int) := by omega
          have z5 : (j : Int) < (l.length : Int) := by omega
          have z6 : (0 : Int) < (j : Int) + 1 := by omega
          have z7 : IntKind.i64.wrap (j : Int) = (j : Int) := by rw [IntKind.wrap_i64]; omega
          have z8 : IntKind.i64.wrap ((j : Int) + 1) = (j : Int) + 1 := by rw [IntKind.wrap_i64]; omega
          have z9 : (0 : Int) ≤ (j : Int) := by omega
          clear hiN
          cases hlv : lt v x with
          | true =>
            have hd : decide (cf v x < 0) = true := by rw [HF.out]; exact hlv
            have hd' : cf v x < 0 := of_decide_eq_true hd
            have HLV := hide hlv
            clear hlv
            go_wp2_with fail
            refine wp_region_quietE (by kernel_rfl) (by kernel_rfl) ?_
            (repeat (refine WQ.step (fun K hK => ?_); have HK := hide hK; clear hK; go_simp; refine HK.out _ ?_; clear HK K))
            (refine WQ.step (fun K hK => ?_); have HK := hide hK; clear hK; go_simp; apply Exists.intro; refine ⟨fun _ => ?_, HK.out _ ?_⟩; (go_at_call 180; refine extby_of (HC.out _ _ _ (HE.out.trans (ExtBy.h _)) HIN.out.1 HIN.out.2)); clear HK K)
            (repeat (refine WQ.step (fun K hK => ?_); have HK := hide hK; clear hK; go_simp; refine HK.out _ ?_; clear HK K))
            refine WQ.done ?_; intro w2 hw'; obtain ⟨⟨_, hw2⟩, hw''⟩ := hw'; subst hw''
            have HE2 := hide (HE.out.trans hw2)
            have HO2 := hide (own_ext HO.out hw2)
            have c1 := (hw2.facts.1 g _ hg).trans cv
            have c2 := (hw2.facts.1 g _ hg).trans cx
            have g1 := (hw2.facts.2.1 g iN hg).trans f1
            have g2 := (hw2.facts.2.1 g j hg).trans f2
            obtain ⟨u3, c3⟩ : ∃ u3, (w2.setCell ⟨g, iN, none⟩ (.int .i64 (x : Nat))).cell? ⟨g, j, none⟩ = some u3 := ⟨_, by
              rw [World.cell?_setCell_other _ _ _ _ (by have := HIJ.out; intro e; simp only [Addr.mk.injEq] at e; omega)]
              exact c2⟩
            clear hw2 HE HO qcv qcx cv cx f1 f2 hd hd' hg
            go_wp2_with fail
            go_big_region
            have hsw : ((w2.setCell ⟨g, iN, none⟩ (.int .i64 (x : Nat))).setCell ⟨g, j, none⟩ (.int .i64 (v : Nat))).drew.ownsRow B 3 1 (.slice (some ⟨g, 0, none⟩) l.length c) l.length (encN (midL v (a ++ [x]) b rest)) ∧ Ext w0 ((w2.setCell ⟨g, iN, none⟩ (.int .i64 (x : Nat))).setCell ⟨g, j, none⟩ (.int .i64 (v : Nat))).drew := by
              rw [HIJ.out, ← HJ.out]
              have h := own_swap HO2.out HE2.out HB.out
              exact ⟨own_ext h.1 ((Ext.refl _).drew), h.2.drew⟩
            clear c1 c2 c3 g1 g2 HO2 HE2
            obtain ⟨w3, hw3⟩ : ∃ w3, w3 = ((w2.setCell ⟨g, iN, none⟩ (.int .i64 (x : Nat))).setCell ⟨g, j, none⟩ (.int .i64 (v : Nat))).drew := ⟨_, rfl⟩
            rw [← hw3] at hsw ⊢
            clear hw3
            have HSW := hide hsw
            clear hsw
            go_wp2_with fail
            go_roundw
            case rel => exact ⟨a ++ [x], b, by rw [HJ.out], hide (HM.out.go HLV.out), hide HSW.out.1, hide HSW.out.2⟩
            case measure => simp [intOf]
          | false =>
            have hd : decide (cf v x < 0) = false := by rw [HF.out]; exact hlv
            have hd' : ¬ cf v x < 0 := of_decide_eq_false hd
            have HLV := hide hlv
            clear hlv
            go_wp2_with fail
            refine wp_region_quietE (by kernel_rfl) (by kernel_rfl) ?_
            (repeat (refine WQ.step (fun K hK => ?_); have HK := hide hK; clear hK; go_simp; refine HK.out _ ?_; clear HK K))
            (refine WQ.step (fun K hK => ?_); have HK := hide hK; clear hK; go_simp; apply Exists.intro; refine ⟨fun _ => ?_, HK.out _ ?_⟩; (go_at_call 180; refine extby_of (HC.out _ _ _ (HE.out.trans (ExtBy.h _)) HIN.out.1 HIN.out.2)); clear HK K)
            (repeat (refine WQ.step (fun K hK => ?_); have HK := hide hK; clear hK; go_simp; refine HK.out _ ?_; clear HK K))
            refine WQ.done ?_; intro w2 hw'; obtain ⟨⟨_, hw2⟩, hw''⟩ := hw'; subst hw''
            have HE2 := hide (HE.out.trans hw2)
            have HO2 := hide (own_ext HO.out hw2)
            clear hw2 HE HO qcv qcx cv cx f1 f2 hd hd' hg
            go_wp2_with fail
            go_roundw
            case rel => exact ⟨i + 1, by omega, by omega, by go_num, hide (by have := HO2.out; rw [← ins_done lt l hlt (a := a) (b := x :: b) (by rw [HV.out, HR.out]; exact HM.out.stop HLV.out), HV.out, HS.out]; exact this), HE2⟩
            case measure => simp [intOf]; omega
    · obtain rfl : i = l.length := by omega
      have hltz : ¬ ((l.length : Nat) : Int) < (l.length : Int) := by omega
      go_wp2_with fail
      go_end0
      exact ⟨rfl, by have := HO.out; rw [List.take_length, List.drop_length, List.append_nil] at this; exact this, HE.out⟩
set_option maxRecDepth 20000 in
theorem Len64_small (n : Nat) (h : n ≤ 12) (w : World) : Calls Try.prog 196 #[.int .u64 (n : Nat)] w fun e w' => (∃ v : Int, e = .returned (.int .i64 v)) ∧ w = w' := by
  have h' : n = 0 ∨ n = 1 ∨ n = 2 ∨ n = 3 ∨ n = 4 ∨ n = 5 ∨ n = 6 ∨ n = 7 ∨ n = 8 ∨ n = 9 ∨ n = 10 ∨ n = 11 ∨ n = 12 := by omega
  clear h
  rcases h' with rfl | rfl | rfl | rfl | rfl | rfl | rfl | rfl | rfl | rfl | rfl | rfl | rfl <;> (go_enter Try.func196, Try.ntmps196; go_wp2; go_ret; exact ⟨⟨_, rfl⟩, rfl⟩)
theorem Len_small (n : Nat) (h : n ≤ 12) (w : World) : Calls Try.prog 184 #[.int .u64 (n : Nat)] w fun e w' => (∃ v : Int, e = .returned (.int .i64 v)) ∧ w = w' := by
  have hc := Len64_small n h w
  go_enter Try.func184, Try.ntmps184
  go_wp2_with (go_at_call 196; refine hc.mono ?_; rintro e w' ⟨⟨v, rfl⟩, rfl⟩)
  go_ret
  exact ⟨⟨_, rfl⟩, rfl⟩
set_option maxHeartbeats 2000000 in
theorem pdqSort_any (lt : Nat → Nat → Bool) (cf : Nat → Nat → Int) (l : List Nat) (cb : Array Value) (B g c : Nat) (lim : Int) (w0 w : World) (hcf : ∀ d e, decide (cf d e < 0) = lt d e) (hl : l.length ≤ 12) (hpos : 0 < l.length) (hB : w0.heap.size ≤ B)
    (hcmp : CmpE 180 cb cf l w0) (hE : Ext w0 w) (hown : w.ownsRow B 3 1 (.slice (some ⟨g, 0, none⟩) l.length c) l.length (encN l)) :
    Calls Try.prog 183 #[.slice (some ⟨g, 0, none⟩) l.length c, .int .i64 0, .int .i64 (l.length : Nat), .int .i64 lim, .func (.func 180) #[] cb] w fun x w' => x = .returned (.tuple #[]) ∧ w'.ownsRow B 3 1 (.slice (some ⟨g, 0, none⟩) l.length c) l.length (encN (insAll lt l).reverse) ∧ Ext w0 w' := by
  have hi := insSort_any lt cf l cb B g c w0 w hcf hl hpos hB hcmp hE hown
  have HI := hide hi
  clear hi hcf hB hcmp hE hown
  have hlz : (l.length : Int) ≤ 12 := by omega
  go_enter Try.func183, Try.ntmps183
  go_wp2_with fail
  refine wp_loop_rounds 1 ?_
  rw [rounds_succ]
  go_wp2_with fail
  refine HI.out.mono ?_
  rintro e w' ⟨rfl, h1, h2⟩
  have H := hide (And.intro h1 h2)
  clear h1 h2
  go_wp2_with fail
  (try simp only [Exit.inBlock, Exit.then])
  refine bodyPost_ret (results_none rfl _ _ _) rfl ?_
  exact ⟨rfl, H.out⟩
set_option maxHeartbeats 2000000 in
theorem SortFunc_any (lt : Nat → Nat → Bool) (cf : Nat → Nat → Int) (l : List Nat) (cb : Array Value) (B g c : Nat) (w0 w : World) (hcf : ∀ d e, decide (cf d e < 0) = lt d e) (hl : l.length ≤ 12) (hpos : 0 < l.length) (hB : w0.heap.size ≤ B)
    (hcmp : CmpE 180 cb cf l w0) (hE : Ext w0 w) (hown : w.ownsRow B 3 1 (.slice (some ⟨g, 0, none⟩) l.length c) l.length (encN l)) :
    Calls Try.prog 179 #[.slice (some ⟨g, 0, none⟩) l.length c, .func (.func 180) #[] cb] w fun x w' => x = .returned (.tuple #[]) ∧ w'.ownsRow B 3 1 (.slice (some ⟨g, 0, none⟩) l.length c) l.length (encN (insAll lt l).reverse) ∧ Ext w0 w' := by
  have hi := fun lim => pdqSort_any lt cf l cb B g c lim w0 w hcf hl hpos hB hcmp hE hown
  have HI := hide hi
  have hb := Len_small l.length hl w
  clear hi hcf hB hcmp hE hown
  have wr : IntKind.u64.wrap (l.length : Int) = l.length := by simp [IntKind.wrap, IntKind.bits, IntKind.signed]; omega
  go_enter Try.func179, Try.ntmps179
  go_wp2_with (go_at_call 184; refine hb.mono ?_; rintro e w' ⟨⟨v, rfl⟩, rfl⟩)
  refine (HI.out _).mono ?_
  rintro e w' ⟨rfl, h1, h2⟩
  have H := hide (And.intro h1 h2)
  clear h1 h2
  go_wp2_with fail
  go_end0
  exact ⟨rfl, H.out⟩
end Go.Proofs.Ytkgbilbicdiadaa
