/- Words and walks for the law FnMatches, a part of them. No condition but that the arguments lie in memory. -/
import Derived.Test.YtabgcpoaepafjaaGreatU12
import Derived.Test.YtabgcpoaepafjaaGreatU24
import Derived.Test.YtabgcpoaepafjaaGreatU29
import Derived.Test.YtabgcpoaepafjaaGreatU30
import Derived.IntWalk
set_option linter.unusedVariables false
set_option linter.unusedSimpArgs false
namespace Go.Proofs.YtabgcpoaepafjaaGreat
open Go.RowKit Go.Maps
/-- The memory of a call of matched that began at w0. -/
structure MW (w0 w : World) (A : Option Addr) (c m U a : Nat) (H : Nat → Option Nat) (n : Nat) : Prop where
  ext : Ext w0 w
  c0 : w.cell? ⟨w0.heap.size, 0, none⟩ = some (.slice A m c)
  c1 : w.cell? ⟨w0.heap.size + 1, 0, none⟩ = some (.int .i64 (U : Int))
  c3 : w.cell? ⟨w0.heap.size + 3, 0, none⟩ = some (.map (some (w0.heap.size + 2)))
  c4 : w.heap[w0.heap.size + 4]? = some (.cells #[.int .i64 (a : Int)] 3 (0, 0))
  c5 : w.cell? ⟨w0.heap.size + 5, 0, none⟩ = some (.func (.func 86) #[] #[.pointer (some ⟨w0.heap.size, 0, none⟩), .pointer (some ⟨w0.heap.size + 4, 0, none⟩), .pointer (some ⟨w0.heap.size + 1, 0, none⟩), .pointer (some ⟨w0.heap.size + 3, 0, none⟩), .pointer (some ⟨w0.heap.size + 5, 0, none⟩)])
  lt : w0.heap.size + 5 < w.heap.size
  mp : MapH w (w0.heap.size + 2) n H
  ask : a < 2 ^ 40
section
variable {w0 w w' : World} {A : Option Addr} {c m U a n : Nat} {H : Nat → Option Nat}
theorem MW.store (h : MW w0 w A c m U a H n) {a' : Nat} (ha : a' < 2 ^ 40) : MW w0 (w.setCell ⟨w0.heap.size + 4, 0, none⟩ (.int .i64 (a' : Int))) A c m U a' H n := by
  have keep : ∀ (q : Nat), q ≠ w0.heap.size + 4 → (w.setCell ⟨w0.heap.size + 4, 0, none⟩ (.int .i64 (a' : Int))).cell? ⟨q, 0, none⟩ = w.cell? ⟨q, 0, none⟩ := fun q hq => by
    exact World.cell?_of_block (Below.heap_setCell _ _ _ _ hq)
  exact ⟨Below.setCell h.ext (p := ⟨w0.heap.size + 4, 0, none⟩) (by simp) _, (keep _ (by omega)).trans h.c0, (keep _ (by omega)).trans h.c1, (keep _ (by omega)).trans h.c3, one_setCell h.c4, (keep _ (by omega)).trans h.c5, by simpa [World.setCell] using h.lt, h.mp.setCell (by simp) _, ha⟩
theorem MW.drew (h : MW w0 w A c m U a H n) : MW w0 w.drew A c m U a H n := ⟨h.ext.drew, h.c0, h.c1, h.c3, h.c4, h.c5, h.lt, h.mp.kept (row := none) ⟨rfl, rfl, rfl, Nat.le_refl _, fun _ _ _ => rfl⟩ (by simp), h.ask⟩
theorem wf_small {f : Nat} (h : f < 64) : (Lit.int .i64 (f : Int)).wf = true := by
  simp only [Lit.wf, Bool.and_eq_true, decide_eq_true_eq]
  exact ⟨by have : IntKind.i64.min = -9223372036854775808 := by decide
            omega, by have : IntKind.i64.max = 9223372036854775807 := by decide
                      omega⟩
theorem MW.write (h : MW w0 w A c m U a H n) {H' : Nat → Option Nat} {n' : Nat} (hg : w.grownBy w' (some (w0.heap.size + 2))) (hm : MapH w' (w0.heap.size + 2) n' H') : MW w0 w' A c m U a H' n' := by
  have keep : ∀ (q : Nat), q ≠ w0.heap.size + 2 → q < w.heap.size → w'.cell? ⟨q, 0, none⟩ = w.cell? ⟨q, 0, none⟩ := fun q hq hl => World.cell?_of_block (hg.block q hl fun e => hq (by injection e))
  have hl := h.lt
  exact ⟨h.ext.grown hg (fun k e => by injection e; omega), (keep _ (by omega) (by omega)).trans h.c0, (keep _ (by omega) (by omega)).trans h.c1, (keep _ (by omega) (by omega)).trans h.c3, (hg.block _ (by omega) fun e => by injection e; omega).trans h.c4, (keep _ (by omega) (by omega)).trans h.c5, Nat.lt_of_lt_of_le h.lt hg.size, hm, h.ask⟩
end
/-- What the search of the shape i comes to. -/
def Found (P : List (List Nat)) (w0 w w' : World) (A : Option Addr) (c m U a i : Nat) (H : Nat → Option Nat) (n : Nat) (e : Ending) : Prop :=
  ∃ (ok : Bool) (H' : Nat → Option Nat) (a' n' : Nat), e = .returned (.bool ok) ∧ Give (fun k => P.getD k []) U i (P.getD i []) H a ok H' a' ∧ MW w0 w' A c m U a' H' n' ∧ (n' + una a' ≤ n + una a ∧ una a' ≤ una a) ∧ ∀ f o, H' f = some o → o < m
set_option maxRecDepth 20000 in
set_option maxHeartbeats 16000000 in
theorem matched1_any (P : List (List Nat)) (A : Option Addr) (c m U : Nat) (w0 : World) (hm : P.length = m) (h8 : m ≤ 8) (h40 : ∀ r ∈ P, r.length ≤ 40) (hlt : ∀ r ∈ P, ∀ p ∈ r, p < 40) (hU : U < 2 ^ 40) (hr : RNN w0 A P) : ∀ (d i a n : Nat) (H : Nat → Option Nat) (w : World), una a ≤ d → i < m → n + d ≤ 100000 → (∀ f o, H f = some o → o < m) → MW w0 w A c m U a H n →
    Calls Tryz.prog 86 #[.int .i64 (i : Int), .pointer (some ⟨w0.heap.size, 0, none⟩), .pointer (some ⟨w0.heap.size + 4, 0, none⟩), .pointer (some ⟨w0.heap.size + 1, 0, none⟩), .pointer (some ⟨w0.heap.size + 3, 0, none⟩), .pointer (some ⟨w0.heap.size + 5, 0, none⟩)] w fun e w' => Found P w0 w w' A c m U a i H n e := by
  intro d
  induction d using Nat.strongRecOn with
  | ind d ih =>
    intro i a n H w hd him hn hH hw
    have iP : i < P.length := by omega
    obtain ⟨b3, off3, rfl, hb3, D, dd, cj0, hd1, hd2, hrD⟩ := hr.at_ iP
    have cj := (hw.ext.facts.1 b3 (off3 + i) hb3).trans cj0
    have hc0 := hw.c0
    have hc1 := hw.c1
    have hc3 := hw.c3
    have hc4 := hw.c4
    have hc5 := hw.c5
    have HW := hide hw
    clear hw cj0 hr
    go_enter Tryz.func86, Tryz.ntmps86
    have HCJ := hide cj
    have hgd : P.getD i [] = P[i] := by simp [iP]
    have HRD := hide hrD
    have hr40 := h40 _ (List.getElem_mem iP)
    have HRL := hide (hlt _ (List.getElem_mem iP))
    obtain ⟨r, hrr⟩ : ∃ r, P[i] = r := ⟨_, rfl⟩
    rw [hrr] at hgd hr40 HRL HRD cj hd1
    unfold Found
    rw [hgd]
    clear HCJ hrD hgd
    go_wp2_with fail
    clear hc0 hc1 hc3 hc4 hc5 cj
    go_loopw [17] (fun x wr => ∃ (j aj nj : Nat) (Hj : Nat → Option Nat), j ≤ r.length ∧ x = .int .i64 j ∧ Hid (∀ ok H' a', Give (fun k => P.getD k []) U i (r.drop j) Hj aj ok H' a' → Give (fun k => P.getD k []) U i r H a ok H' a') ∧ Hid (MW w0 wr (some ⟨b3, off3, none⟩) c m U aj Hj nj) ∧ Hid (nj + una aj ≤ n + una a ∧ una aj ≤ una a) ∧ Hid (∀ f o, Hj f = some o → o < m)) (fun x _ => r.length - (intOf x).toNat)
    case atStart => exact ⟨0, a, n, H, Nat.zero_le _, rfl, hide (fun _ _ _ h => h), HW, hide ⟨Nat.le_refl _, Nat.le_refl _⟩, hide hH⟩
    case round =>
      clear HW
      obtain ⟨j, aj, nj, Hj, hj, rfl, HG, HW, HN, HH⟩ := hrel
      by_cases hjr : j < r.length
      · have hjz : (j : Int) < (r.length : Int) := by omega
        obtain ⟨bR, oR, rfl, hbR, hcR⟩ := (Rds.ext HRD.out HW.out.ext).2 (by omega)
        have cR := hcR j _ (encI_castZ_get hjr)
        have hpl := HRL.out _ (List.getElem_mem hjr)
        have hdr : r.drop j = r[j] :: r.drop (j + 1) := List.drop_eq_getElem_cons hjr
        rw [hdr] at HG
        obtain ⟨f, hf⟩ : ∃ f, r[j] = f := ⟨_, rfl⟩
        rw [hf] at cR hpl HG
        clear hf hcR hdr
        have hc1 := HW.out.c1
        have hc3 := HW.out.c3
        have hc4 := cell_of_one HW.out.c4
        have hfr4 := free_of_one HW.out.c4
        have hc5 := HW.out.c5
        have hlt5 := HW.out.lt
        have hak := HW.out.ask
        have hor := i64_or aj U (Nat.lt_of_lt_of_le hak (by decide)) (Nat.lt_of_lt_of_le hU (by decide))
        have hb := bit_at (aj ||| U) f (Nat.lt_of_lt_of_le (Nat.or_lt_two_pow hak hU) (by decide))
        cases ht : (aj ||| U).testBit f with
        | true =>
          rw [ht] at hb
          simp only [if_true] at hb
          have HG2 := hide (fun ok H' a' (h : Give (fun k => P.getD k []) U i (r.drop (j + 1)) Hj aj ok H' a') => HG.out ok H' a' (Give.skip ht h))
          clear ht HG
          go_wp2_with fail
          go_roundw
          case rel => exact ⟨j + 1, aj, nj, Hj, by omega, by go_num, HG2, HW, HN, HH⟩
          case measure => simp [intOf]; omega
        | false =>
          rw [ht] at hb
          simp only [Bool.false_eq_true, if_false] at hb
          have bsh := or_shl (u := aj) (f := f) (by omega) (by omega)
          go_upto_region 5 with fail
          go_region
          rw [IntWalk.i64_left] at bsh
          rw [bsh]
          have HW5 := hide ((HW.out.store (asked_lt hak hpl)).drew)
          obtain ⟨w5, hw5⟩ : ∃ w5, w5 = (wr.setCell ⟨w0.heap.size + 4, 0, none⟩ (.int .i64 ((aj ||| 2 ^ f : Nat) : Int))).drew := ⟨_, rfl⟩
          rw [← hw5] at HW5 ⊢
          have HWW5 := hide hw5
          clear hw5
          clear hc1 hc3 hc4 hfr4 hc5 hlt5 hak
          have hd3 := HW5.out.c3
          have hd5 := HW5.out.c5
          obtain ⟨Dm, hown, hDm⟩ := HW5.out.mp
          have hDf := hDm f (by omega)
          have HDM := hide hDm
          clear hDm
          obtain ⟨HNJ, HUJ⟩ := HN.out
          have hst := una_step hpl (bit_or ht).1
          cases ho : Hj f with
          | none =>
            rw [ho] at hDf
            have hhas : has Dm (.int .i64 (f : Int)) = false := hDf.1
            clear hDf
            go_wp2_with (first | ((refine wpList_lookup_own_ok_int _ rfl _ _ 105 rfl 3 3 .i64 (int_keyed Tryz.underlying3) Tryz.underlying105 Tryz.underlying3 (by rfl) (w0.heap.size + 2) nj Dm rfl hown (.int .i64 (f : Int)) (.int .i64 (f : Int)) rfl (keyOf_int_mk Tryz.underlying3 (wf_small (by omega))) ?_); intro cv hcv hwf) | (at_mapUpdate; refine wpList_mapUpdate_own _ rfl _ _ _ 105 rfl 3 3 (int_keyed Tryz.underlying3) Tryz.underlying105 (plainElem Tryz.prog 3) (w0.heap.size + 2) nj Dm rfl hown (by unfold maxLen; omega) (.int .i64 (f : Int)) (.int .i64 (i : Int)) (.int .i64 (f : Int)) rfl rfl (keyOf_int_mk Tryz.underlying3 (wf_small (by omega))) (.lit (.int .i64 (i : Int))) [] (plainElem_int Tryz.underlying3 (wf_small (by omega))) ?_; intro w6 hown6 hg6))
            go_ret
            exact ⟨true, put Hj f i, _, nj + 1, rfl, HG.out _ _ _ (Give.free ht ho), HW5.out.write hg6 (MapH.put hown.isMap HDM.out hown6 (by simp [WideAt.IsKeyLit])), ⟨by omega, by omega⟩, fun g q hq => by
              by_cases e : g = f
              · rw [e, put_same] at hq; injection hq with hq; omega
              · rw [put_ne e] at hq; exact HH.out g q hq⟩
          | some o =>
            rw [ho] at hDf
            have hhas : has Dm (.int .i64 (f : Int)) = true := hDf.1
            have hat := hDf.2 o rfl
            clear hDf
            go_wp2_with ((refine wpList_lookup_own_ok_int _ rfl _ _ 105 rfl 3 3 .i64 (int_keyed Tryz.underlying3) Tryz.underlying105 Tryz.underlying3 (by rfl) (w0.heap.size + 2) nj Dm rfl hown (.int .i64 (f : Int)) (.int .i64 (f : Int)) rfl (keyOf_int_mk Tryz.underlying3 (wf_small (by omega))) ?_); intro cv hcv hwf)
            obtain rfl : cv = (o : Int) := by
              have q := hcv.symm.trans hat
              injection q with q
              injection q
            clear hcv hwf hat hd3 hd5 hown HDM HWW5 hhas
            refine (ih (una (aj ||| 2 ^ f)) (by omega) o (aj ||| 2 ^ f) nj Hj w5 (Nat.le_refl _) (HH.out f o ho) (by omega) HH.out HW5.out).mono ?_
            rintro e w7 ⟨ok, H', a', n', rfl, hG, hW, hN, hH'⟩
            have HW7 := hide hW
            have HG7 := hide hG
            have HH7 := hide hH'
            clear hW hG hH' HW5
            have he3 := HW7.out.c3
            cases ok with
            | true =>
              obtain ⟨D7, hown7, hD7⟩ := HW7.out.mp
              have HD7 := hide hD7
              clear hD7
              go_wp2_with (at_mapUpdate; refine wpList_mapUpdate_own _ rfl _ _ _ 105 rfl 3 3 (int_keyed Tryz.underlying3) Tryz.underlying105 (plainElem Tryz.prog 3) (w0.heap.size + 2) n' D7 rfl hown7 (by unfold maxLen; omega) (.int .i64 (f : Int)) (.int .i64 (i : Int)) (.int .i64 (f : Int)) rfl rfl (keyOf_int_mk Tryz.underlying3 (wf_small (by omega))) (.lit (.int .i64 (i : Int))) [] (plainElem_int Tryz.underlying3 (wf_small (by omega))) ?_; intro w6 hown6 hg6)
              go_ret
              exact ⟨true, put H' f i, a', n' + 1, rfl, HG.out _ _ _ (Give.take ht ho HG7.out), HW7.out.write hg6 (MapH.put hown7.isMap HD7.out hown6 (by simp [WideAt.IsKeyLit])), ⟨by omega, by omega⟩, fun g q hq => by
                by_cases e : g = f
                · rw [e, put_same] at hq; injection hq with hq; omega
                · rw [put_ne e] at hq; exact HH7.out g q hq⟩
            | false =>
              go_wp2_with fail
              go_roundw
              case rel => exact ⟨j + 1, a', n', H', by omega, by go_num, hide (fun ok' H'' a'' h => HG.out ok' H'' a'' (Give.go ht ho HG7.out h)), HW7, hide ⟨by omega, by omega⟩, HH7⟩
              case measure => simp [intOf]; omega
      · obtain rfl : j = r.length := by omega
        have HG2 := hide (HG.out false Hj aj (by rw [List.drop_of_length_le (Nat.le_refl _)]; exact Give.nil))
        go_wp2_with fail
        go_ret
        exact ⟨false, Hj, aj, nj, rfl, HG2.out, HW.out, HN.out, HH.out⟩
end Go.Proofs.YtabgcpoaepafjaaGreat
namespace Go.Proofs.YtabgcpoaepafjaaGreat
open Go.RowKit Go.Maps
theorem Tried.le {P : Nat → List Nat} {U j : Nat} {H : Nat → Option Nat} {n : Nat} (h : Tried P U j H n) : n ≤ j := by
  obtain ⟨L, l1, l2, l3⟩ := h.count
  have := nodup_le L (List.range j) l1 fun l hl => List.mem_range.2 (h.low l ((l3 l).1 hl))
  rw [List.length_range] at this
  omega
theorem heap_new (W : World) (o : Obj) : (W.alloc o).heap[W.heap.size]? = some o := by
  show (W.heap.push o)[W.heap.size]? = some o
  simp
set_option maxRecDepth 20000 in
theorem MW.start (w : World) (A : Option Addr) (c m U : Nat) (T : TypeId) : MW w ((((((w.alloc (.cells #[.slice A m c] 46)).alloc (.cells #[.int .i64 (U : Int)] 3)).alloc (.map #[] 0)).alloc (.cells #[.map (some (w.heap.size + 2))] 105)).alloc (.cells #[.int .i64 0] 3)).alloc (.cells #[.func (.func 86) #[] #[.pointer (some ⟨w.heap.size, 0, none⟩), .pointer (some ⟨w.heap.size + 4, 0, none⟩), .pointer (some ⟨w.heap.size + 1, 0, none⟩), .pointer (some ⟨w.heap.size + 3, 0, none⟩), .pointer (some ⟨w.heap.size + 5, 0, none⟩)]] T)) A c m U 0 (fun _ => none) 0 where
  ext := by repeat (first | exact kE | exact Ext.refl _ | apply Ext.alloc | apply Ext.drewN | apply Ext.drew | apply Ext.set0 | apply Ext.set1 | apply Ext.set2 | apply Ext.set3 | (refine Ext.setk ?_ (by omega) _) | (apply Ext.snoc; assumption))
  c0 := by
    have hE : ∀ o1 o2 o3 o4 o5, Ext (w.alloc (.cells #[.slice A m c] 46)) ((((((w.alloc (.cells #[.slice A m c] 46)).alloc o1).alloc o2).alloc o3).alloc o4).alloc o5) := fun o1 o2 o3 o4 o5 => by repeat (first | exact kE | exact Ext.refl _ | apply Ext.alloc | apply Ext.drewN | apply Ext.drew | apply Ext.set0 | apply Ext.set1 | apply Ext.set2 | apply Ext.set3 | (refine Ext.setk ?_ (by omega) _) | (apply Ext.snoc; assumption))
    exact ((hE _ _ _ _ _).facts.1 w.heap.size 0 (by simp)).trans (by rw [World.cell?_alloc_new]; rfl)
  c1 := by simp [go_sem]
  c3 := by simp [go_sem]
  c4 := by
    obtain ⟨W4, h4⟩ : ∃ W4, W4 = (((w.alloc (.cells #[.slice A m c] 46)).alloc (.cells #[.int .i64 (U : Int)] 3)).alloc (.map #[] 0)).alloc (.cells #[.map (some (w.heap.size + 2))] 105) := ⟨_, rfl⟩
    have e : w.heap.size + 4 = W4.heap.size := by rw [h4]; simp
    rw [← h4, e]
    exact (((Ext.refl (W4.alloc (.cells #[.int .i64 0] 3))).alloc _).block W4.heap.size (by simp)).trans (heap_new W4 _)
  c5 := by simp [go_sem]
  lt := by simp
  mp := by
    obtain ⟨W2, h2⟩ : ∃ W2, W2 = (w.alloc (.cells #[.slice A m c] 46)).alloc (.cells #[.int .i64 (U : Int)] 3) := ⟨_, rfl⟩
    have e : w.heap.size + 2 = W2.heap.size := by rw [h2]; simp
    rw [← h2, e]
    have hE : ∀ o1 o2 o3, Ext (W2.alloc (.map #[] 0)) ((((W2.alloc (.map #[] 0)).alloc o1).alloc o2).alloc o3) := fun o1 o2 o3 => by repeat (first | exact kE | exact Ext.refl _ | apply Ext.alloc | apply Ext.drewN | apply Ext.drew | apply Ext.set0 | apply Ext.set1 | apply Ext.set2 | apply Ext.set3 | (refine Ext.setk ?_ (by omega) _) | (apply Ext.snoc; assumption))
    exact (MapH.made W2).kept (row := none) ⟨(hE _ _ _).os, (hE _ _ _).tape, (hE _ _ _).output, (hE _ _ _).size, fun k hk _ => (hE _ _ _).block k hk⟩ (by simp)
  ask := by decide
theorem una_zero : una 0 ≤ 40 := una_le 0
set_option maxRecDepth 20000 in
set_option maxHeartbeats 16000000 in
theorem matched_any (P : List (List Nat)) (A : Option Addr) (c m U : Nat) (used : List Nat) (w : World) (hm : P.length = m) (h8 : m ≤ 8) (h40 : ∀ r ∈ P, r.length ≤ 40) (hlt : ∀ r ∈ P, ∀ p ∈ r, p < 40) (hU : U < 2 ^ 40) (hu : Bits U used) (hr : RNN w A P) :
    Calls Tryz.prog 46 #[.slice A m c, .int .i64 (U : Int)] w fun e w' => e = .returned (.int .i64 (bestM P used : Nat)) ∧ Ext w w' := by
  have HM1 := hide (fun (i a n : Nat) (H : Nat → Option Nat) (W : World) => matched1_any P A c m U w hm h8 h40 hlt hU hr 40 i a n H W)
  have HB := hide (fun (H : Nat → Option Nat) (n : Nat) (h : Tried (fun k => P.getD k []) U m H n) => Tried.best hu (P := P) (by rw [hm]; exact h))
  clear h40 hlt hu hr hm
  have hmm := @run_makeMap Tryz.prog
  have hsf : ∀ (a : Addr) (fn : Fn) (x y : Array Value) (w : World) (m : Mode), (store a (.func fn x y) m).run Tryz.prog w = stored Tryz.prog w a (.func fn x y) m := fun _ _ _ _ _ _ => run_store _ _ _ _ _ rfl
  go_enter Tryz.func46, Tryz.ntmps46
  go_wp2_with fail
  simp only [Nat.add_assoc, Nat.reduceAdd]
  obtain ⟨w5, hw5⟩ : ∃ w5, w5 = ((((((w.alloc (.cells #[.slice A m c] 46)).alloc (.cells #[.int .i64 (U : Int)] 3)).alloc (.map #[] 0)).alloc (.cells #[.map (some (w.heap.size + 2))] 105)).alloc (.cells #[.int .i64 0] 3)).alloc (.cells #[.func (.func 86) #[] #[.pointer (some ⟨w.heap.size, 0, none⟩), .pointer (some ⟨w.heap.size + 4, 0, none⟩), .pointer (some ⟨w.heap.size + 1, 0, none⟩), .pointer (some ⟨w.heap.size + 3, 0, none⟩), .pointer (some ⟨w.heap.size + 5, 0, none⟩)]] 106)) := ⟨_, rfl⟩
  have HW0 := hide (show MW w w5 A c m U 0 (fun _ => none) 0 from hw5 ▸ MW.start w A c m U _)
  rw [← hw5]
  clear hw5 hmm hsf
  go_loopw [8, 14] (fun v i wr => ∃ (j n a nn : Nat) (H : Nat → Option Nat), j ≤ m ∧ i = .int .i64 j ∧ v = .int .i64 n ∧ Hid (Tried (fun k => P.getD k []) U j H n) ∧ Hid (MW w wr A c m U a H nn) ∧ Hid (nn ≤ 40 * j) ∧ Hid (∀ f o, H f = some o → o < m)) (fun _ i _ => m - (intOf i).toNat)
  case atStart => exact ⟨0, 0, 0, 0, _, Nat.zero_le _, rfl, rfl, hide (Tried.start _ _), HW0, hide (Nat.zero_le _), hide (fun _ _ h => by cases h)⟩
  case round =>
    clear HW0
    obtain ⟨j, n, a, nn, H, hj, rfl, rfl, HT, HW, HN, HH⟩ := hrel
    have hnj := HT.out.le
    by_cases hlt : j < m
    · have hjz : (j : Int) < (m : Int) := by omega
      have hc4 := cell_of_one HW.out.c4
      have hfr4 := free_of_one HW.out.c4
      have hw0 : MW w (wr.setCell ⟨w.heap.size + 4, 0, none⟩ (.int .i64 0)) A c m U 0 H nn := HW.out.store (a' := 0) (by decide)
      have HW5 := hide hw0
      have hc5 := hw0.c5
      have hn1 := HN.out
      have hu0 := una_zero
      clear hw0
      go_wp2_with fail
      refine (HM1.out j 0 nn H _ hu0 hlt (by omega) HH.out HW5.out).mono ?_
      rintro e w7 ⟨ok, H', a', n', rfl, hG, hW, ⟨hN, _⟩, hH'⟩
      have HT2 := hide (HT.out.step hG)
      have HW7 := hide hW
      have HH7 := hide hH'
      have HN7 := hide (show n' ≤ 40 * (j + 1) by omega)
      clear hG hW hH' hN HW5 hc4 hfr4 hc5 HT
      cases ok with
      | true =>
        go_wp2_with fail
        go_roundw
        case rel => exact ⟨j + 1, n + 1, a', n', H', by omega, by go_num, by go_num, HT2, HW7, HN7, HH7⟩
        case measure => simp [intOf]; omega
      | false =>
        go_wp2_with fail
        go_roundw
        case rel => exact ⟨j + 1, n, a', n', H', by omega, by go_num, rfl, HT2, HW7, HN7, HH7⟩
        case measure => simp [intOf]; omega
    · obtain rfl : j = m := by omega
      have HB2 := hide (HB.out H n HT.out)
      go_wp2_with fail
      go_ret
      exact ⟨by rw [HB2.out]; rfl, HW.out.ext⟩
end Go.Proofs.YtabgcpoaepafjaaGreat
namespace Go.Proofs.YtabgcpoaepafjaaGreat
open Go.RowKit
theorem RNN.drop {w : World} {P : List (List Nat)} {b off k : Nat} (h : RNN w (some ⟨b, off, none⟩) P) : RNN w (some ⟨b, off + k, none⟩) (P.drop k) := by
  obtain ⟨hs, h1, h2⟩ := h
  refine ⟨hs.drop k, ⟨by have := h1.1; simp at this ⊢; omega, fun hp => ?_⟩, fun i hi => ?_⟩
  · obtain ⟨b', off', e, hb, hc⟩ := h1.2 (by simp at hp; omega)
    injection e with e
    injection e with e1 e2
    subst e1 e2
    refine ⟨b, off + k, rfl, hb, fun j u hj => ?_⟩
    rw [List.getElem?_drop] at hj
    rw [Nat.add_assoc]
    exact hc _ u hj
  · have hi2 : k + i < P.length := by simp at hi; omega
    obtain ⟨B, c, e1, e2, e3, e4⟩ := h2 (k + i) hi2
    refine ⟨B, c, ?_, ?_, e3, ?_⟩
    · rw [List.getElem?_drop, e1]
      simp
    · simpa using e2
    · simpa using e4
theorem Bits.nil : Bits 0 [] := fun f => by simp
theorem Bits.snoc {U p : Nat} {used : List Nat} (h : Bits U used) : Bits (U ||| 2 ^ p) (used ++ [p]) := fun f => by
  rw [List.mem_append, List.mem_singleton, h f, Nat.testBit_or, Bool.or_eq_true, Nat.testBit_two_pow, decide_eq_true_eq]
  exact or_congr Iff.rfl eq_comm
theorem Bits.has {U p : Nat} {used : List Nat} (h : Bits U used) : used.contains p = U.testBit p := by
  rw [Bool.eq_iff_iff, ← h p]
  simp
set_option maxRecDepth 20000 in
set_option maxHeartbeats 16000000 in
theorem MatchPanes_any (N E : List P2) (L : List (List P2)) (A B C : Option Addr) (c c' c3 : Nat) (w : World) (hw : WR w N E A B c c') (hl : L.length ≤ 1048576) (hls : ∀ S ∈ L, S.length ≤ 1048576) (hr : RSS w C L) :
    Calls Tryz.prog 9 #[.agg #[.slice A N.length c, .slice B E.length c'], .slice C L.length c3] w fun e w' => ∃ A2 c2, e = .returned (.slice A2 (matchV N E L).length c2) ∧ w'.ownsRow w.heap.size 3 1 (.slice A2 (matchV N E L).length c2) (matchV N E L).length (encI (matchV N E L)) ∧ Ext w w' := by
  obtain ⟨i0, hi, hz0, hz1, hz2⟩ := info_parts int_info
  have HNO := hide (fun (W : World) (hE : Ext w W) (ha : askB N E L = false) => placesOf_no N E L A B C c c' c3 W (hw.ext hE) hl ha)
  have HYES := hide (fun (W : World) (hE : Ext w W) (ha : askB N E L = true) => placesOf_yes N E L A B C c c' c3 W (hw.ext hE) hls (hr.ext hE) ha)
  have HVN := hide (fun h => matchV_no (N := N) (E := E) (L := L) h)
  have HVY := hide (fun h => matchV_yes (N := N) (E := E) (L := L) h)
  have HPL := hide (plN_length N E L)
  have HLT := hide (plN_lt N E L)
  have HP40 := hide (plN_len N E L)
  have H8 := hide (show askB N E L = true → L.length ≤ 8 from fun h => by unfold askB at h; rw [Bool.and_eq_true, decide_eq_true_eq] at h; exact h.2)
  obtain ⟨P, hP⟩ : ∃ P, plN N E L = P := ⟨_, rfl⟩
  obtain ⟨V, hV⟩ : ∃ V, matchV N E L = V := ⟨_, rfl⟩
  obtain ⟨q, hq⟩ : ∃ q, askB N E L = q := ⟨_, rfl⟩
  rw [hP] at HYES HVY HPL HLT HP40
  rw [hV] at HVN HVY ⊢
  rw [hq] at HNO HYES HVN HVY H8
  clear hw hr hls hP hV hq
  
  go_enter Tryz.func9, Tryz.ntmps9
  go_wp2_with fail
  obtain ⟨w0, hw⟩ : ∃ w1, w1 = w.alloc (Obj.cells #[Value.slice A N.length c, Value.slice B E.length c'] 27) := ⟨_, rfl⟩; rw [← hw]; have kT : Tr [(w.heap.size, [.slice A N.length c, .slice B E.length c'])] w w0 := (by rw [hw]; exact ⟨by (first | (simp [Bx, CellsAt, go_sem, *]; done) | (simp [Bx, CellsAt, go_sem, *]; omega)), by (repeat (first | exact kE | exact Ext.refl _ | apply Ext.alloc | apply Ext.drewN | apply Ext.drew | apply Ext.set0 | apply Ext.set1 | apply Ext.set2 | apply Ext.set3 | (refine Ext.setk ?_ (by omega) _) | (apply Ext.snoc; assumption)))⟩); have HT := hide kT; clear hw kT; have kT := HT.out; simp only [Tr, Bx, CellsAt, Nat.reduceAdd, Nat.zero_add, and_true] at kT; obtain ⟨⟨kz0, kf0, kc0_0, kc0_1⟩, kE⟩ := kT
  cases q with
  | false =>
    refine (HNO.out _ kE rfl).mono ?_
    rintro e w3 ⟨rfl, hb⟩
    have HE := hide (kE.trans hb)
    clear hb
    obtain rfl := HVN.out rfl
    go_wp2_with fail
    go_ret
    exact ⟨none, 0, rfl, World.ownsRow_nil _ _ _ _, HE.out⟩
  | true =>
    refine (HYES.out _ kE rfl).mono ?_
    rintro e w3 ⟨A2, c2, rfl, hc1, hc2, hrnn, hb⟩
    have HR := hide hrnn
    have HE3 := hide (kE.trans hb)
    have h8 := H8.out rfl
    have HV2 := hide (HVY.out rfl)
    clear hb hrnn HVN HVY HNO HYES HT H8
    clear kz0 kf0 kc0_0 kc0_1 kE
    obtain ⟨m, hm⟩ : ∃ m, L.length = m := ⟨_, rfl⟩
    have HPM := hide (show P.length = m from by rw [HPL.out, hm])
    rw [hm] at hc1 h8 ⊢
    clear HPL hm
    have HMA := hide (show ∀ (W : World), Ext w3 W → Calls Tryz.prog 46 #[.slice A2 m c2, .int .i64 0] W fun e w' => e = .returned (.int .i64 (bestM P [] : Nat)) ∧ Ext W w' from fun W hE => matched_any P A2 c2 m 0 [] W HPM.out h8 HP40.out HLT.out (by decide) Bits.nil (HR.out.ext hE))
    have hb0 := bestM_le P []
    rw [HPM.out] at hb0
    obtain ⟨bb, hbb⟩ : ∃ x, bestM P [] = x := ⟨_, rfl⟩
    have HB0 := hide hbb
    rw [hbb] at HMA hb0
    clear hbb
    go_wp2_with fail
    refine (HMA.out _ (Ext.refl _)).mono ?_
    rintro e w4 ⟨rfl, hb4⟩
    have HE4 := hide hb4
    clear hb4 HMA
    go_wp2_with fail
    go_loopw [7, 8, 9, 27] (fun vm vu vo i wr => ∃ (y most U : Nat) (used : List Nat) (zs : List Int), y ≤ m ∧ i = .int .i64 y ∧ vm = .int .i64 most ∧ vu = .int .i64 U ∧ most ≤ m ∧ U < 2 ^ 40 ∧ Hid (Bits U used) ∧ Hid (bestM (P.drop y) used = most) ∧ Hid (V = zs ++ pickR (P.drop y) used) ∧ Hid (wr.ownsRow w3.heap.size 3 1 vo y (encI zs)) ∧ Hid (Ext w3 wr)) (fun _ _ _ i _ => m - (intOf i).toNat)
    case atStart => exact ⟨0, bb, 0, [], [], Nat.zero_le _, rfl, rfl, rfl, hb0, by decide, hide Bits.nil, hide HB0.out, hide (by rw [HV2.out]; rfl), hide (World.ownsRow_nil _ _ _ _), HE4⟩
    case round =>
      obtain ⟨y, most, U, used, zs, hy, rfl, rfl, rfl, hmost, hU, HBI, HBE, HV, HO, HE⟩ := hrel
      have hsz := HE.out.size
      by_cases hlt : y < m
      · have hlz : (y : Int) < (m : Int) := by omega
        have hyP : y < P.length := by rw [HPM.out]; exact hlt
        have hdr : P.drop y = P[y] :: P.drop (y + 1) := List.drop_eq_getElem_cons hyP
        have hr40 := HP40.out _ (List.getElem_mem hyP)
        have HRL := hide (HLT.out _ (List.getElem_mem hyP))
        obtain ⟨bP, oP, rfl, hbP, D, dd, cP, hd1, hd2, hrD⟩ := (HR.out.ext HE.out).at_ hyP
        have HRD := hide hrD
        obtain ⟨A3, hA3⟩ : ∃ A3, (if c2 = y + 1 then some (⟨bP, oP, none⟩ : Addr) else some ⟨bP, oP + (y + 1), none⟩) = A3 := ⟨_, rfl⟩
        have HA3 := hide hA3
        have HTL := hide (show RNN wr A3 (P.drop (y + 1)) from by
          rw [← hA3]
          split
          · rename_i e
            rw [List.drop_of_length_le (by rw [HPM.out]; omega)]
            exact ⟨[], ⟨rfl, fun h => absurd h (by simp)⟩, fun i hi => absurd hi (by simp)⟩
          · exact RNN.drop (k := y + 1) (HR.out.ext HE.out))
        clear hA3
        have HQ40 := hide (fun r (hr : r ∈ P.drop (y + 1)) => HP40.out r (List.mem_of_mem_drop hr))
        have HQLT := hide (fun r (hr : r ∈ P.drop (y + 1)) => HLT.out r (List.mem_of_mem_drop hr))
        have hQm : (P.drop (y + 1)).length = m - (y + 1) := by rw [List.length_drop, HPM.out]
        rw [hdr] at HBE HV
        obtain ⟨r, hrr⟩ : ∃ r, P[y] = r := ⟨_, rfl⟩
        rw [hrr] at hr40 HRL cP hd1 HRD HBE HV
        obtain ⟨Q, hQ⟩ : ∃ Q, P.drop (y + 1) = Q := ⟨_, rfl⟩
        rw [hQ] at HBE HV HTL HQ40 HQLT hQm
        have HMQ := hide (show ∀ (p : Nat), p < 40 → ∀ (W : World), Ext wr W → Calls Tryz.prog 46 #[.slice A3 (m - (y + 1)) (c2 - (y + 1)), .int .i64 ((U ||| 2 ^ p : Nat) : Int)] W fun e w' => e = .returned (.int .i64 (bestM Q (used ++ [p]) : Nat)) ∧ Ext W w' from fun p hp W hE => matched_any Q _ _ _ (U ||| 2 ^ p) (used ++ [p]) W hQm (by omega) HQ40.out HQLT.out (asked_lt hU hp) HBI.out.snoc (HTL.out.ext hE))
        have HBQ := hide (fun u => bestM_le Q u)
        have HTK := hide (show ∀ p, takes Q used most p = (!used.contains p && decide (1 + bestM Q (used ++ [p]) = most)) from fun p => rfl)
        have HPK := hide (show pickOf r Q used = r.find? (takes Q used most) from by rw [← HBE.out]; rfl)
        have HQ := hide hQ
        obtain ⟨T, hT⟩ : ∃ T, takes Q used most = T := ⟨_, rfl⟩
        rw [hT] at HTK HPK
        clear hT hQ hrr hdr hyP hrD HTL HQ40 HQLT
        go_wp2_with fail
        go_loopw [12, 34] (fun v i wq => ∃ j : Nat, j ≤ r.length ∧ i = .int .i64 j ∧ v = .int .i64 (-1) ∧ Hid (FindI r T j (-1)) ∧ Hid (Ext wr wq)) (fun _ i _ => r.length - (intOf i).toNat)
        case atStart => exact ⟨0, Nat.zero_le _, rfl, rfl, hide (FindI.start r T), hide (Ext.refl _)⟩
        case round =>
          obtain ⟨j, hj, rfl, rfl, HF, HE3⟩ := hrel
          by_cases hjr : j < r.length
          · have hjz : (j : Int) < (r.length : Int) := by omega
            obtain ⟨bR, oR, rfl, hbR, hcR⟩ := (Rds.ext HRD.out HE3.out).2 (by omega)
            have cR := hcR j _ (encI_castZ_get hjr)
            have hpl := HRL.out _ (List.getElem_mem hjr)
            have HNO := hide (HF.out.no hjr (by decide))
            have HYES := hide (HF.out.yes hjr (by decide))
            obtain ⟨p, hp⟩ : ∃ p, r[j] = p := ⟨_, rfl⟩
            rw [hp] at cR hpl HNO HYES
            have hbm := HBQ.out (used ++ [p])
            have htk := HTK.out p
            have hbit := bit_at U p (Nat.lt_of_lt_of_le hU (by decide))
            have bsh := or_shl (u := U) (f := p) (Nat.lt_of_lt_of_le hU (by decide)) (by omega)
            rw [HBI.out.has] at htk
            clear hp hcR HF
            go_upto_region 14 with fail
            cases ht : U.testBit p with
            | true =>
              rw [ht] at hbit htk
              simp only [if_true] at hbit
              rw [Bool.not_true, Bool.false_and] at htk
              have HNO2 := hide (HNO.out htk)
              clear HNO HYES htk ht
              go_region
              go_wp2_with fail
              go_roundw
              case rel => exact ⟨j + 1, by omega, by go_num, rfl, HNO2, by first | exact HE3 | exact hide HE3.out.drew⟩
              case measure => simp [intOf]; omega
            | false =>
              rw [ht] at hbit htk
              simp only [Bool.false_eq_true, if_false] at hbit
              rw [Bool.not_false, Bool.true_and] at htk
              have HQC := hide (fun q : ExtBy wr => HMQ.out p hpl q.w (HE3.out.trans q.h))
              obtain ⟨Bq, hBq⟩ : ∃ Bq, bestM Q (used ++ [p]) = Bq := ⟨_, rfl⟩
              rw [hBq] at htk hbm HQC
              have HBQ2 := hide hBq
              clear ht hBq
              have hwy : IntKind.i64.wrap ((y : Int) + 1) = (y : Int) + 1 := by rw [IntKind.wrap_i64]; omega
              have hmw : IntKind.i64.wrap ((most : Int) - 1) = (most : Int) - 1 := by rw [IntKind.wrap_i64]; omega
              have hty : ((y : Int) + 1).toNat = y + 1 := by omega
              have hy0 : (0 : Int) ≤ (y : Int) + 1 := by omega
              have hym : (y : Int) + 1 ≤ (m : Int) := by omega
              have hA3 := HA3.out
              
              refine wp_region_quietE (by kernel_rfl) (by kernel_rfl) ?_; (repeat (refine WQ.step (fun K hK => ?_); have HK := hide hK; clear hK; go_simp; refine HK.out _ ?_; clear HK K)); (refine WQ.step (fun K hK => ?_); have HK := hide hK; clear hK; go_simp; apply Exists.intro; refine ⟨fun _ => ?_, HK.out _ ?_⟩; (go_at_call 46; refine extby_of (HQC.out _)); clear HK K); (repeat (refine WQ.step (fun K hK => ?_); have HK := hide hK; clear hK; go_simp; refine HK.out _ ?_; clear HK K)); refine WQ.done ?_; intro w7 hw'; obtain ⟨⟨_, hw7⟩, hw''⟩ := hw'; subst hw''
              have HE7 := hide (HE3.out.trans hw7)
              clear hw7 hwy hty hy0 hym hA3 HQC hmw
              by_cases heq : 1 + Bq = most
              · have hez : ((Bq : Int) == (most : Int) - 1) = true := by rw [beq_iff_eq]; omega
                rw [decide_eq_true heq] at htk
                have hpz : (0 : Int) ≤ (p : Int) := by omega
                have bsh2 : bits .or .i64 (U : Int) (wrap64 ((2 : Int) ^ p)) = ((U ||| 2 ^ p : Nat) : Int) := by rw [wrap64_eq]; exact bsh
                obtain ⟨p', hpp, hfi⟩ := (HYES.out htk).some (by omega)
                have hpp2 : p' = p := by omega
                rw [hpp2] at hfi
                have HV9 := hide (show V = (zs ++ [(p : Int)]) ++ pickR Q (used ++ [p]) from by rw [HV.out, pickR_yes (HPK.out.trans hfi)]; simp)
                have HO7 := hide (own_ext HO.out HE7.out)
                have hsz7 := HE7.out.size
                have hasl := asked_lt hU hpl
                have HBS := hide (HBI.out.snoc (p := p))
                clear HNO HYES htk hfi hpp hpp2 p'
                go_wp2_with (at_builtin; refine wpList_append_own _ rfl _ _ 31 rfl w3.heap.size 3 i0 (.int .i64 0) 1 8 Tryz.underlying31 hi hz0 hz1 hz2 rfl (by decide) u9 y (encI zs) rfl (own_ext HO7.out ((Ext.refl _).alloc _)) ⟨w7.heap.size, 0, none⟩ 1 1 [.int .i64 (p : Int)] rfl rfl (news_new w7 #[.int .i64 (p : Int)] 3) (enc_one _) (by unfold maxLen; omega) (by omega) (by first | (simp; done) | (simp; omega)) ?_; intro v6 w8 hown8 hgrow8 hnil8)
                have HX8 := hide (Ext.grown ((HE.out.trans HE7.out).alloc _) hgrow8 (own_base HO7.out (Nat.le_refl _)))
                have HO8 := hide (show w8.ownsRow w3.heap.size 3 1 v6 (y + 1) (encI (zs ++ [(p : Int)])) from by rw [encI_snoc]; exact hown8)
                clear hown8 hgrow8 hnil8
                go_roundw
                case rel => exact ⟨y + 1, Bq, _, used ++ [p], zs ++ [(p : Int)], by omega, by go_num, by go_num, rfl, by omega, hasl, HBS, hide (by rw [HQ.out]; exact HBQ2.out), hide (by rw [HQ.out]; exact HV9.out), HO8, HX8⟩
                case measure => simp [intOf]; omega
              · have hez : ((Bq : Int) == (most : Int) - 1) = false := by rw [beq_eq_false_iff_ne]; omega
                have hez2 : ¬ (Bq : Int) = (most : Int) - 1 := by omega
                rw [decide_eq_false heq] at htk
                have HNO2 := hide (HNO.out htk)
                clear HNO HYES htk heq
                go_wp2_with fail
                go_roundw
                case rel => exact ⟨j + 1, by omega, by go_num, rfl, HNO2, by first | exact HE7 | exact hide HE7.out.drew⟩
                case measure => simp [intOf]; omega
          · obtain rfl : j = r.length := by omega
            obtain ⟨_, hfi⟩ := HF.out.none (by decide)
            have hpk := HPK.out.trans hfi
            have HV9 := hide (show V = (zs ++ [(-1 : Int)]) ++ pickR Q used from by rw [HV.out, pickR_none hpk]; simp)
            have HB9 := hide (show bestM (P.drop (y + 1)) used = most from by rw [HQ.out, ← HBE.out, pick_none hpk])
            have HO7 := hide (own_ext HO.out HE3.out)
            have hsz7 := HE3.out.size
            clear hfi hpk HF
            go_wp2_with (at_builtin; refine wpList_append_own _ rfl _ _ 31 rfl w3.heap.size 3 i0 (.int .i64 0) 1 8 Tryz.underlying31 hi hz0 hz1 hz2 rfl (by decide) u9 y (encI zs) rfl (own_ext HO7.out ((Ext.refl _).alloc _)) ⟨wr.heap.size, 0, none⟩ 1 1 [.int .i64 (-1)] rfl rfl (news_new wr #[.int .i64 (-1)] 3) (enc_one _) (by unfold maxLen; omega) (by omega) (by first | (simp; done) | (simp; omega)) ?_; intro v6 w8 hown8 hgrow8 hnil8)
            have HX8 := hide (Ext.grown ((HE.out.trans HE3.out).alloc _) hgrow8 (own_base HO7.out (Nat.le_refl _)))
            have HO8 := hide (show w8.ownsRow w3.heap.size 3 1 v6 (y + 1) (encI (zs ++ [(-1 : Int)])) from by rw [encI_snoc]; exact hown8)
            clear hown8 hgrow8 hnil8
            go_roundw
            case rel => exact ⟨y + 1, most, U, used, zs ++ [(-1 : Int)], by omega, by go_num, rfl, rfl, hmost, hU, HBI, HB9, hide (by rw [HQ.out]; exact HV9.out), HO8, HX8⟩
            case measure => simp [intOf]; omega
      · obtain rfl : y = m := by omega
        have hV := HV.out
        rw [List.drop_of_length_le (by rw [HPM.out]; omega), pickR, List.append_nil] at hV
        subst hV
        have HX := hide (HE3.out.trans HE.out)
        obtain ⟨Ar, cr, rfl, _⟩ := own_slice HO.out
        have HO9 := hide HO.out
        have hzl : V.length = y := by have := HO9.out.1; simpa [encI] using this
        have HZL := hide hzl
        clear hzl HO
        go_wp2_with fail
        go_ret
        have h9 := HO9.out
        rw [HZL.out]
        exact ⟨Ar, cr, rfl, own_mono h9 (by have := HE3.out.size; omega), HX.out⟩
end Go.Proofs.YtabgcpoaepafjaaGreat
namespace Go.Proofs.YtabgcpoaepafjaaGreat
open Go.RowKit
theorem lhas_any (xs : List Int) (A : Option Addr) (c : Nat) (x : Int) (w : World) (hl : xs.length ≤ 1048576) (hr : RI w A xs) :
    Calls Tryz.prog 15 #[.slice A xs.length c, .int .i64 x] w fun e w' => e = .returned (.bool (hasL xs x)) ∧ w = w' := by
  have HR := hide hr
  clear hr
  go_enter Tryz.func15, Tryz.ntmps15
  go_wp2_with fail
  go_loopw [5] (fun i wr => ∃ k : Nat, k ≤ xs.length ∧ i = .int .i64 k ∧ Hid ((xs.take k).contains x = false) ∧ Hid (wr = w)) (fun i _ => xs.length - (intOf i).toNat)
  case atStart => exact ⟨0, Nat.zero_le _, rfl, hide (by simp), hide rfl⟩
  case round =>
    obtain ⟨k, hk, rfl, HN, HW⟩ := hrel
    obtain rfl := HW.out
    by_cases hlt : k < xs.length
    · have hlz : (k : Int) < (xs.length : Int) := by omega
      obtain ⟨b, off, rfl, hb, hc⟩ := RI.at_ HR.out hlt
      have HST := hide (fun h => has_step hlt HN.out h)
      have HHI := hide (fun (h : xs[k] = x) => has_hit hlt h)
      obtain ⟨y, hy⟩ : ∃ y, xs[k] = y := ⟨_, rfl⟩
      rw [hy] at hc
      have HST := hide (fun h => HST.out (by rw [hy]; exact h))
      have HHI := hide (fun h => HHI.out (by rw [hy]; exact h))
      clear hy
      by_cases he : y = x
      · have HV := hide (HHI.out he)
        have q1 : (y == x) = true := by simp [he]
        clear he
        go_wp2_with fail
        go_ret
        exact ⟨ret_bool HV.out.symm, rfl⟩
      · have HV := hide (HST.out he)
        have q1 : (y == x) = false := by simp [he]
        clear he
        go_wp2_with fail
        go_roundw
        case rel => exact ⟨k + 1, by omega, by go_num, HV, by first | exact hide rfl | exact hide trivial⟩
        case measure => simp [intOf]; omega
    · have HV := hide (has_end hlt HN.out)
      obtain rfl : k = xs.length := by omega
      go_wp2_with fail
      go_ret
      exact ⟨ret_bool HV.out.symm, rfl⟩
end Go.Proofs.YtabgcpoaepafjaaGreat
namespace Go.Proofs.YtabgcpoaepafjaaGreat
open Go.RowKit
theorem big_any (l : List Int) (A : Option Addr) (c : Nat) (w : World) (hl : l.length ≤ maxLen) :
    Calls Tryz.prog 7 #[.slice A l.length c] w fun e w' => e = .returned (.bool (decide ((1048576 : Int) < l.length))) ∧ w = w' := by
  unfold maxLen at hl
  go_enter Tryz.func7, Tryz.ntmps7
  go_wp2
  go_ret
  exact ⟨rfl, rfl⟩
end Go.Proofs.YtabgcpoaepafjaaGreat
