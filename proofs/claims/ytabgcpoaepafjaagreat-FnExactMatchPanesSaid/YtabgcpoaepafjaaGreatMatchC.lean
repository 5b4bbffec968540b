/- The walk of the closure of impl.matched. No condition. UNDER WAY. -/
import Derived.Test.YtabgcpoaepafjaaGreatHoldM
import Derived.Test.YtabgcpoaepafjaaGreatMatchG
set_option linter.unusedSimpArgs false
set_option linter.unusedVariables false
namespace Go.Proofs.YtabgcpoaepafjaaGreat
open Go.RowKit Go.Maps

/-- The memory of a call of matched that began at w0. -/
structure MW (w0 w : World) (A : Option Addr) (c m U a : Nat) (H : Nat → Option Nat) (n : Nat) : Prop where
  ext : Ext w0 w
  c0 : w.cell? ⟨w0.heap.size, 0, none⟩ = some (.slice A m c)
  c1 : w.cell? ⟨w0.heap.size + 1, 0, none⟩ = some (.int .i64 (U : Int))
  c3 : w.cell? ⟨w0.heap.size + 3, 0, none⟩ = some (.map (some (w0.heap.size + 2)))
  c4 : w.heap[w0.heap.size + 4]? = some (.cells #[.int .i64 (a : Int)] 3 (0, 0))
  c5 : w.cell? ⟨w0.heap.size + 5, 0, none⟩ = some (.func (.func 86) #[] #[.pointer (some ⟨w0.heap.size, 0, none⟩), .pointer (some ⟨w0.heap.size + 4, 0, none⟩), .pointer (some ⟨w0.heap.size + 1, 0, none⟩), .pointer (some ⟨w0.heap.size + 3, 0, none⟩), .pointer (some ⟨w0.heap.size + 5, 0, none⟩)])
  lt : w0.heap.size + 5 < w.heap.size
  mp : MapH w (w0.heap.size + 2) n H
  ask : a < 2 ^ 40
section
variable {w0 w w' : World} {A : Option Addr} {c m U a n : Nat} {H : Nat → Option Nat}
theorem MW.store (h : MW w0 w A c m U a H n) {a' : Nat} (ha : a' < 2 ^ 40) : MW w0 (w.setCell ⟨w0.heap.size + 4, 0, none⟩ (.int .i64 (a' : Int))) A c m U a' H n := by
  have keep : ∀ (q : Nat), q ≠ w0.heap.size + 4 → (w.setCell ⟨w0.heap.size + 4, 0, none⟩ (.int .i64 (a' : Int))).cell? ⟨q, 0, none⟩ = w.cell? ⟨q, 0, none⟩ := fun q hq => by
    exact World.cell?_of_block (Below.heap_setCell _ _ _ _ hq)
  exact ⟨Below.setCell h.ext (p := ⟨w0.heap.size + 4, 0, none⟩) (by simp) _, (keep _ (by omega)).trans h.c0, (keep _ (by omega)).trans h.c1, (keep _ (by omega)).trans h.c3, one_setCell h.c4, (keep _ (by omega)).trans h.c5, by simpa [World.setCell] using h.lt, h.mp.setCell (by simp) _, ha⟩
theorem MW.drew (h : MW w0 w A c m U a H n) : MW w0 w.drew A c m U a H n := ⟨h.ext.drew, h.c0, h.c1, h.c3, h.c4, h.c5, h.lt, h.mp.kept (row := none) ⟨rfl, rfl, rfl, Nat.le_refl _, fun _ _ _ => rfl⟩ (by simp), h.ask⟩
theorem wf_small {f : Nat} (h : f < 64) : (Lit.int .i64 (f : Int)).wf = true := by
  simp only [Lit.wf, Bool.and_eq_true, decide_eq_true_eq]
  exact ⟨by have : IntKind.i64.min = -9223372036854775808 := by decide
            omega, by have : IntKind.i64.max = 9223372036854775807 := by decide
                      omega⟩
theorem MW.write (h : MW w0 w A c m U a H n) {H' : Nat → Option Nat} {n' : Nat} (hg : w.grownBy w' (some (w0.heap.size + 2))) (hm : MapH w' (w0.heap.size + 2) n' H') : MW w0 w' A c m U a H' n' := by
  have keep : ∀ (q : Nat), q ≠ w0.heap.size + 2 → q < w.heap.size → w'.cell? ⟨q, 0, none⟩ = w.cell? ⟨q, 0, none⟩ := fun q hq hl => World.cell?_of_block (hg.block q hl fun e => hq (by injection e))
  have hl := h.lt
  exact ⟨h.ext.grown hg (fun k e => by injection e; omega), (keep _ (by omega) (by omega)).trans h.c0, (keep _ (by omega) (by omega)).trans h.c1, (keep _ (by omega) (by omega)).trans h.c3, (hg.block _ (by omega) fun e => by injection e; omega).trans h.c4, (keep _ (by omega) (by omega)).trans h.c5, Nat.lt_of_lt_of_le h.lt hg.size, hm, h.ask⟩
end
/-- What the search of the shape i comes to. -/
def Found (P : List (List Nat)) (w0 w w' : World) (A : Option Addr) (c m U a i : Nat) (H : Nat → Option Nat) (n : Nat) (e : Ending) : Prop :=
  ∃ (ok : Bool) (H' : Nat → Option Nat) (a' n' : Nat), e = .returned (.bool ok) ∧ Give (fun k => P.getD k []) U i (P.getD i []) H a ok H' a' ∧ MW w0 w' A c m U a' H' n' ∧ (n' + una a' ≤ n + una a ∧ una a' ≤ una a) ∧ ∀ f o, H' f = some o → o < m
set_option maxRecDepth 20000 in
set_option maxHeartbeats 16000000 in
theorem matched1_any (P : List (List Nat)) (A : Option Addr) (c m U : Nat) (w0 : World) (hm : P.length = m) (h8 : m ≤ 8) (h40 : ∀ r ∈ P, r.length ≤ 40) (hlt : ∀ r ∈ P, ∀ p ∈ r, p < 40) (hU : U < 2 ^ 40) (hr : RNN w0 A P) : ∀ (d i a n : Nat) (H : Nat → Option Nat) (w : World), una a ≤ d → i < m → n + d ≤ 100000 → (∀ f o, H f = some o → o < m) → MW w0 w A c m U a H n →
    Calls Tryz.prog 86 #[.int .i64 (i : Int), .pointer (some ⟨w0.heap.size, 0, none⟩), .pointer (some ⟨w0.heap.size + 4, 0, none⟩), .pointer (some ⟨w0.heap.size + 1, 0, none⟩), .pointer (some ⟨w0.heap.size + 3, 0, none⟩), .pointer (some ⟨w0.heap.size + 5, 0, none⟩)] w fun e w' => Found P w0 w w' A c m U a i H n e := by
  intro d
  induction d using Nat.strongRecOn with
  | ind d ih =>
    intro i a n H w hd him hn hH hw
    have iP : i < P.length := by omega
    obtain ⟨b3, off3, rfl, hb3, D, dd, cj0, hd1, hd2, hrD⟩ := hr.at_ iP
    have cj := (hw.ext.facts.1 b3 (off3 + i) hb3).trans cj0
    have hc0 := hw.c0
    have hc1 := hw.c1
    have hc3 := hw.c3
    have hc4 := hw.c4
    have hc5 := hw.c5
    have HW := hide hw
    clear hw cj0 hr
    go_enter Tryz.func86, Tryz.ntmps86
    have HCJ := hide cj
    have hgd : P.getD i [] = P[i] := by simp [iP]
    have HRD := hide hrD
    have hr40 := h40 _ (List.getElem_mem iP)
    have HRL := hide (hlt _ (List.getElem_mem iP))
    obtain ⟨r, hrr⟩ : ∃ r, P[i] = r := ⟨_, rfl⟩
    rw [hrr] at hgd hr40 HRL HRD cj hd1
    unfold Found
    rw [hgd]
    clear HCJ hrD hgd
    go_wp2_with fail
    clear hc0 hc1 hc3 hc4 hc5 cj
    go_loopw [17] (fun x wr => ∃ (j aj nj : Nat) (Hj : Nat → Option Nat), j ≤ r.length ∧ x = .int .i64 j ∧ Hid (∀ ok H' a', Give (fun k => P.getD k []) U i (r.drop j) Hj aj ok H' a' → Give (fun k => P.getD k []) U i r H a ok H' a') ∧ Hid (MW w0 wr (some ⟨b3, off3, none⟩) c m U aj Hj nj) ∧ Hid (nj + una aj ≤ n + una a ∧ una aj ≤ una a) ∧ Hid (∀ f o, Hj f = some o → o < m)) (fun x _ => r.length - (intOf x).toNat)
    case atStart => exact ⟨0, a, n, H, Nat.zero_le _, rfl, hide (fun _ _ _ h => h), HW, hide ⟨Nat.le_refl _, Nat.le_refl _⟩, hide hH⟩
    case round =>
      clear HW
      obtain ⟨j, aj, nj, Hj, hj, rfl, HG, HW, HN, HH⟩ := hrel
      by_cases hjr : j < r.length
      · have hjz : (j : Int) < (r.length : Int) := by omega
        obtain ⟨bR, oR, rfl, hbR, hcR⟩ := (Rds.ext HRD.out HW.out.ext).2 (by omega)
        have cR := hcR j _ (encI_castZ_get hjr)
        have hpl := HRL.out _ (List.getElem_mem hjr)
        have hdr : r.drop j = r[j] :: r.drop (j + 1) := List.drop_eq_getElem_cons hjr
        rw [hdr] at HG
        obtain ⟨f, hf⟩ : ∃ f, r[j] = f := ⟨_, rfl⟩
        rw [hf] at cR hpl HG
        clear hf hcR hdr
        have hc1 := HW.out.c1
        have hc3 := HW.out.c3
        have hc4 := cell_of_one HW.out.c4
        have hfr4 := free_of_one HW.out.c4
        have hc5 := HW.out.c5
        have hlt5 := HW.out.lt
        have hak := HW.out.ask
        have hor := i64_or aj U (Nat.lt_of_lt_of_le hak (by decide)) (Nat.lt_of_lt_of_le hU (by decide))
        have hb := bit_at (aj ||| U) f (Nat.lt_of_lt_of_le (Nat.or_lt_two_pow hak hU) (by decide))
        cases ht : (aj ||| U).testBit f with
        | true =>
          rw [ht] at hb
          simp only [if_true] at hb
          have HG2 := hide (fun ok H' a' (h : Give (fun k => P.getD k []) U i (r.drop (j + 1)) Hj aj ok H' a') => HG.out ok H' a' (Give.skip ht h))
          clear ht HG
          go_wp2_with fail
          go_roundw
          case rel => exact ⟨j + 1, aj, nj, Hj, by omega, by go_num, HG2, HW, HN, HH⟩
          case measure => simp [intOf]; omega
        | false =>
          rw [ht] at hb
          simp only [Bool.false_eq_true, if_false] at hb
          have bsh := or_shl (u := aj) (f := f) (by omega) (by omega)
          go_upto_region 5 with fail
          go_region
          rw [IntWalk.i64_left] at bsh
          rw [bsh]
          have HW5 := hide ((HW.out.store (asked_lt hak hpl)).drew)
          obtain ⟨w5, hw5⟩ : ∃ w5, w5 = (wr.setCell ⟨w0.heap.size + 4, 0, none⟩ (.int .i64 ((aj ||| 2 ^ f : Nat) : Int))).drew := ⟨_, rfl⟩
          rw [← hw5] at HW5 ⊢
          have HWW5 := hide hw5
          clear hw5
          clear hc1 hc3 hc4 hfr4 hc5 hlt5 hak
          have hd3 := HW5.out.c3
          have hd5 := HW5.out.c5
          obtain ⟨Dm, hown, hDm⟩ := HW5.out.mp
          have hDf := hDm f (by omega)
          have HDM := hide hDm
          clear hDm
          obtain ⟨HNJ, HUJ⟩ := HN.out
          have hst := una_step hpl (bit_or ht).1
          cases ho : Hj f with
          | none =>
            rw [ho] at hDf
            have hhas : has Dm (.int .i64 (f : Int)) = false := hDf.1
            clear hDf
            go_wp2_with (first | ((refine wpList_lookup_own_ok_int _ rfl _ _ 105 rfl 3 3 .i64 (int_keyed Tryz.underlying3) Tryz.underlying105 Tryz.underlying3 (by rfl) (w0.heap.size + 2) nj Dm rfl hown (.int .i64 (f : Int)) (.int .i64 (f : Int)) rfl (keyOf_int_mk Tryz.underlying3 (wf_small (by omega))) ?_); intro cv hcv hwf) | (at_mapUpdate; refine wpList_mapUpdate_own _ rfl _ _ _ 105 rfl 3 3 (int_keyed Tryz.underlying3) Tryz.underlying105 (plainElem Tryz.prog 3) (w0.heap.size + 2) nj Dm rfl hown (by unfold maxLen; omega) (.int .i64 (f : Int)) (.int .i64 (i : Int)) (.int .i64 (f : Int)) rfl rfl (keyOf_int_mk Tryz.underlying3 (wf_small (by omega))) (.lit (.int .i64 (i : Int))) [] (plainElem_int Tryz.underlying3 (wf_small (by omega))) ?_; intro w6 hown6 hg6))
            go_ret
            exact ⟨true, put Hj f i, _, nj + 1, rfl, HG.out _ _ _ (Give.free ht ho), HW5.out.write hg6 (MapH.put hown.isMap HDM.out hown6 (by simp [WideAt.IsKeyLit])), ⟨by omega, by omega⟩, fun g q hq => by
              by_cases e : g = f
              · rw [e, put_same] at hq; injection hq with hq; omega
              · rw [put_ne e] at hq; exact HH.out g q hq⟩
          | some o =>
            rw [ho] at hDf
            have hhas : has Dm (.int .i64 (f : Int)) = true := hDf.1
            have hat := hDf.2 o rfl
            clear hDf
            go_wp2_with ((refine wpList_lookup_own_ok_int _ rfl _ _ 105 rfl 3 3 .i64 (int_keyed Tryz.underlying3) Tryz.underlying105 Tryz.underlying3 (by rfl) (w0.heap.size + 2) nj Dm rfl hown (.int .i64 (f : Int)) (.int .i64 (f : Int)) rfl (keyOf_int_mk Tryz.underlying3 (wf_small (by omega))) ?_); intro cv hcv hwf)
            obtain rfl : cv = (o : Int) := by
              have q := hcv.symm.trans hat
              injection q with q
              injection q
            clear hcv hwf hat hd3 hd5 hown HDM HWW5 hhas
            refine (ih (una (aj ||| 2 ^ f)) (by omega) o (aj ||| 2 ^ f) nj Hj w5 (Nat.le_refl _) (HH.out f o ho) (by omega) HH.out HW5.out).mono ?_
            rintro e w7 ⟨ok, H', a', n', rfl, hG, hW, hN, hH'⟩
            have HW7 := hide hW
            have HG7 := hide hG
            have HH7 := hide hH'
            clear hW hG hH' HW5
            have he3 := HW7.out.c3
            cases ok with
            | true =>
              obtain ⟨D7, hown7, hD7⟩ := HW7.out.mp
              have HD7 := hide hD7
              clear hD7
              go_wp2_with (at_mapUpdate; refine wpList_mapUpdate_own _ rfl _ _ _ 105 rfl 3 3 (int_keyed Tryz.underlying3) Tryz.underlying105 (plainElem Tryz.prog 3) (w0.heap.size + 2) n' D7 rfl hown7 (by unfold maxLen; omega) (.int .i64 (f : Int)) (.int .i64 (i : Int)) (.int .i64 (f : Int)) rfl rfl (keyOf_int_mk Tryz.underlying3 (wf_small (by omega))) (.lit (.int .i64 (i : Int))) [] (plainElem_int Tryz.underlying3 (wf_small (by omega))) ?_; intro w6 hown6 hg6)
              go_ret
              exact ⟨true, put H' f i, a', n' + 1, rfl, HG.out _ _ _ (Give.take ht ho HG7.out), HW7.out.write hg6 (MapH.put hown7.isMap HD7.out hown6 (by simp [WideAt.IsKeyLit])), ⟨by omega, by omega⟩, fun g q hq => by
                by_cases e : g = f
                · rw [e, put_same] at hq; injection hq with hq; omega
                · rw [put_ne e] at hq; exact HH7.out g q hq⟩
            | false =>
              go_wp2_with fail
              go_roundw
              case rel => exact ⟨j + 1, a', n', H', by omega, by go_num, hide (fun ok' H'' a'' h => HG.out ok' H'' a'' (Give.go ht ho HG7.out h)), HW7, hide ⟨by omega, by omega⟩, HH7⟩
              case measure => simp [intOf]; omega
      · obtain rfl : j = r.length := by omega
        have HG2 := hide (HG.out false Hj aj (by rw [List.drop_of_length_le (Nat.le_refl _)]; exact Give.nil))
        go_wp2_with fail
        go_ret
        exact ⟨false, Hj, aj, nj, rfl, HG2.out, HW.out, HN.out, HH.out⟩
end Go.Proofs.YtabgcpoaepafjaaGreat
