/- Words and walks for the law FnTrees, a part of them. No condition but that the arguments lie in memory. -/
import Derived.Test.YtabgcpoaepafjaaU16
import Derived.Test.YtabgcpoaepafjaaU17
import Derived.Test.YtabgcpoaepafjaaU18
import Derived.Test.YtabgcpoaepafjaaU19
import Derived.Deep.AppendLies
set_option linter.unusedVariables false
set_option linter.unusedSimpArgs false
namespace Go.Proofs.Ytabgcpoaepafjaa
open Go.RowKit
theorem tr_gap {w w' : World} {hd a g g' n : Nat} (hE : Ext w w') (hh : hd < w.heap.size) (h1 : w.cell? ⟨hd, a, none⟩ = some (.slice (some ⟨g, 0, none⟩) n n)) (h2 : w'.cell? ⟨hd, a, none⟩ = some (.slice (some ⟨g', 0, none⟩) n n)) : g = g' := by
  have e := (Ext.facts hE).1 hd a hh
  rw [h1, h2] at e
  injection e with e
  injection e with e
  injection e with e
  injection e with e
  exact e.symm
set_option maxRecDepth 20000 in
set_option maxHeartbeats 8000000 in
theorem CountSpanning_any (N E : List P2) (A B : Option Addr) (c c' : Nat) (w : World) (hw : WR w N E A B c c') :
    Calls Try.prog 10 #[.agg #[.slice A N.length c, .slice B E.length c']] w fun e w' => e = .returned (.int .i64 (spanI N E)) ∧ Ext w w' := by
  obtain ⟨i0, hi, hz0, hz1, hz2⟩ := info_parts rows_info
  obtain ⟨j0, hj, hy0, hy1, hy2⟩ := info_parts int_info
  have HI := hide (fun (W : World) (hE : Ext w W) => IsWhole_any N E A B c c' W (hw.ext hE))
  cases hwh : wholeB N E with
  | false =>
    have HV := hide (spanI_no hwh)
    have HC := hide (fun (W : World) (hE : Ext w W) => by have h := HI.out W hE; rw [hwh] at h; exact h)
    obtain ⟨V, hV⟩ : ∃ V, spanI N E = V := ⟨_, rfl⟩
    rw [hV] at HV ⊢
    clear hw hwh HI hV
    
    go_enter Try.func10, Try.ntmps10
    go_wp2_with fail
    obtain ⟨w0, hw⟩ : ∃ w1, w1 = w.alloc (Obj.cells #[Value.slice A N.length c, Value.slice B E.length c'] 27) := ⟨_, rfl⟩; rw [← hw]; have kT : Tr [(w.heap.size, [.slice A N.length c, .slice B E.length c'])] w w0 := (by rw [hw]; exact ⟨by (first | (simp [Bx, CellsAt, go_sem, *]; done) | (simp [Bx, CellsAt, go_sem, *]; omega)), by (repeat (first | exact kE | exact Ext.refl _ | apply Ext.alloc | apply Ext.drewN | apply Ext.drew | apply Ext.set0 | apply Ext.set1 | apply Ext.set2 | apply Ext.set3 | (refine Ext.setk ?_ (by omega) _) | (apply Ext.snoc; assumption)))⟩); have HT := hide kT; clear hw kT; have kT := HT.out; simp only [Tr, Bx, CellsAt, Nat.reduceAdd, Nat.zero_add, and_true] at kT; obtain ⟨⟨kz0, kf0, kc0_0, kc0_1⟩, kE⟩ := kT
    refine (HC.out _ kE).mono ?_
    rintro e w2 ⟨rfl, hb2⟩
    have HE2 := hide (kE.trans hb2)
    clear hb2
    go_wp2_with fail
    go_ret
    exact ⟨ret_int HV.out.symm, HE2.out⟩
  | true =>
    have HC := hide (fun (W : World) (hE : Ext w W) => by have h := HI.out W hE; rw [hwh] at h; exact h)
    have HV := hide (spanI_yes hwh)
    have hok := (wholeB_iff.1 hwh).1
    obtain ⟨hm, _, hn2, hn12, _, _⟩ := whole_m hwh
    have HDD := hide (fun (a : Nat) (ha : a + 1 < N.length) (W : World) (hE : Ext w W) => DegreeOf_any N E A B c c' a W (hw.ext hE) hok ha)
    have HSM := hide (tab_sml (sE E) (N.length - 1) hm)
    have HLE := hide (fun k (hk : k < E.length) => sE_lead hok hk)
    obtain ⟨V, hV⟩ : ∃ V, spanI N E = V := ⟨_, rfl⟩
    rw [hV] at HV ⊢
    obtain ⟨n, hn⟩ : ∃ n, N.length = n := ⟨_, rfl⟩
    have HW := hide hw
    have HNL := hide hn
    rw [hn] at hn2 hn12 HDD HSM HV HC HLE ⊢
    obtain ⟨q, hq⟩ : ∃ q, n = q + 1 := ⟨n - 1, by omega⟩
    subst hq
    rw [Nat.add_sub_cancel] at HV HSM
    obtain ⟨s, hs⟩ : ∃ s, sE E = s := ⟨_, rfl⟩
    rw [hs] at HDD HSM HV HLE
    have HT0 := hide (fun i => (show tabS s E.length 0 i i = (dgD s (i + 1) (2 * E.length) : Int) by unfold tabS; rw [if_pos rfl]))
    have HT1 := hide (fun i j (h : i ≠ j) => (show tabS s E.length 0 i j = 0 by unfold tabS; rw [if_neg h]; rfl))
    have HTE := hide (tabS_end s E.length)
    have HTS := hide (fun k (h : s (2 * k) = 0) => tabS_same (m := E.length) h)
    have HTP := hide (fun k x y (hx : s (2 * k) = x + 1) (hy : s (2 * k + 1) = y + 1) (h : x ≠ y) => tabS_put (m := E.length) hx hy h)
    have HTB := hide (fun k i j (hk : k ≤ E.length) => tabS_small s E.length k i j hm (by omega))
    obtain ⟨D, hD⟩ : ∃ D : Nat → Nat, (fun a => dgD s (a + 1) (2 * E.length)) = D := ⟨_, rfl⟩
    have hDk : ∀ a, dgD s (a + 1) (2 * E.length) = D a := fun a => congrFun hD a
    have HT0 := hide (fun i => (by have h := HT0.out i; rw [hDk] at h; exact h : tabS s E.length 0 i i = (D i : Int)))
    have HDD := hide (fun (a : Nat) (ha : a + 1 < q + 1) (W : World) (hE : Ext w W) => (by have h := HDD.out a ha W hE; rw [hDk] at h; exact h : Calls Try.prog 43 #[.agg #[.slice A (q + 1) c, .slice B E.length c'], .int .i64 ((a : Int) + 1)] W fun e w' => e = .returned (.int .i64 (D a : Nat)) ∧ Ext W w'))
    obtain ⟨Tf, hTf⟩ : ∃ Tf : Nat → Nat → Nat → Int, tabS s E.length = Tf := ⟨_, rfl⟩
    rw [hTf] at HT0 HT1 HTE HTS HTP HTB
    rw [← HTE.out] at HSM HV
    clear hw hwh HI hV hn hs hok hD hDk hTf HTE hn2
    
    go_enter Try.func10, Try.ntmps10
    go_wp2_with fail
    obtain ⟨w0, hw⟩ : ∃ w1, w1 = w.alloc (Obj.cells #[Value.slice A (q + 1) c, Value.slice B E.length c'] 27) := ⟨_, rfl⟩; rw [← hw]; have kT : Tr [(w.heap.size, [.slice A (q + 1) c, .slice B E.length c'])] w w0 := (by rw [hw]; exact ⟨by (first | (simp [Bx, CellsAt, go_sem, *]; done) | (simp [Bx, CellsAt, go_sem, *]; omega)), by (repeat (first | exact kE | exact Ext.refl _ | apply Ext.alloc | apply Ext.drewN | apply Ext.drew | apply Ext.set0 | apply Ext.set1 | apply Ext.set2 | apply Ext.set3 | (refine Ext.setk ?_ (by omega) _) | (apply Ext.snoc; assumption)))⟩); have HT := hide kT; clear hw kT; have kT := HT.out; simp only [Tr, Bx, CellsAt, Nat.reduceAdd, Nat.zero_add, and_true] at kT; obtain ⟨⟨kz0, kf0, kc0_0, kc0_1⟩, kE⟩ := kT
    refine (HC.out w0 kE).mono ?_; rintro e w2 ⟨rfl, hb⟩; have HT := hide (HT.out.ext hb); have Hw2 := hide hb; clear hb; clear kz0 kf0 kc0_0 kc0_1 kE; have kT := HT.out; simp only [Tr, Bx, CellsAt, Nat.reduceAdd, Nat.zero_add, and_true] at kT; obtain ⟨⟨kz0, kf0, kc0_0, kc0_1⟩, kE⟩ := kT
    have hq1 : IntKind.i64.wrap (((q + 1 : Nat) : Int) - 1) = (q : Int) := by rw [IntKind.wrap_i64]; omega
    have hq2 : ((q + 1 : Nat) : Int) - 1 = (q : Int) := by omega
    have HTZ := HT
    have HZ2 := hide kz0
    go_wp2_with (at_make; refine wpList_make_full _ rfl _ _ 40 rfl w2.heap.size 29 i0 (.slice none 0 0) 1 Try.underlying40 hi hz0 hz1 .i64 .i64 q q q rfl rfl (by omega) (by omega) (by rw [hz2]; omega) (by unfold maxLen; omega) (Nat.le_refl _) ?_; intro w3 hown hgrow)
    obtain ⟨hs, hb1, hb2, hb3, hb4⟩ := Blk.of_own hown
    have HM0 : Hid (Mat w3 w2.heap.size w2.heap.size q 0 q 29 3 (Tf 0)) := hide (Mat.start hs (Nat.le_refl _) hb1 (by omega))
    have HE3 := hide (show Ext w2 w3 from grown_ext hgrow)
    have hsz3 := hb1.lt
    clear hown hgrow hb1 hb2 hb3 hb4 HT hq1 hq2
    clear kz0 kf0 kc0_0 kc0_1 kE
    go_loopw [19] (fun i wr => ∃ a : Nat, a ≤ q ∧ i = .int .i64 a ∧ Hid (Mat wr w2.heap.size w2.heap.size q a q 29 3 (Tf 0)) ∧ Hid (Ext w2 wr)) (fun i _ => q - (intOf i).toNat)
    case atStart => exact ⟨0, Nat.zero_le _, rfl, HM0, HE3⟩
    case round =>
      clear HM0 HE3
      obtain ⟨a, ha, rfl, HM, HE⟩ := hrel
      have HB := hide (HE.out.size)
      by_cases hlt : a < q
      · have haz : (a : Int) < (q : Int) := by omega
        obtain ⟨⟨hv0, hh0⟩, hh1⟩ := HM.out.header hlt
        have hml := HM.out.lt.2
        have hsz := HB.out
        go_wp2_with (at_make; refine wpList_make_full _ rfl _ _ 29 rfl w2.heap.size 3 j0 (.int .i64 0) 1 Try.underlying29 hj hy0 hy1 .i64 .i64 q q q rfl rfl (by omega) (by omega) (by rw [hy2]; omega) (by unfold maxLen; omega) (by omega) ?_; intro w5 hown hgrow; have hX2 := grown_ext hgrow; have HX2 := hide hX2; obtain ⟨⟨hv2, hh2⟩, hh3⟩ := (HM.out.ext hX2).header hlt; clear hX2)
        rw [made_zeros] at hown
        have hm3 := HM.out.row (f' := fun i j => if i = a then 0 else Tf 0 i j) hlt HB.out HX2.out (Blk.of_full hown) (fun i j hij => by show (if i = a then 0 else Tf 0 i j) = _; rw [if_neg (by omega)]) (fun j => by simp)
        have he3 := (HE.out.trans HX2.out).set (p := ⟨w2.heap.size, a, none⟩) (Nat.le_refl _) (.slice (some ⟨wr.heap.size, 0, none⟩) q q)
        obtain ⟨w6, hw6⟩ : ∃ w6, w6 = w5.setCell ⟨w2.heap.size, a, none⟩ (.slice (some ⟨wr.heap.size, 0, none⟩) q q) := ⟨_, rfl⟩
        rw [← hw6] at hm3 he3 ⊢
        have HM6 := hide hm3
        have HE6 := hide he3
        clear hown hgrow hm3 he3 hw6 hh0 hh1 hh2 hh3 HX2 HM HE hml hsz hv0 hv2
        obtain ⟨g, a1, a2, a3, a4, a5, a6⟩ := HM6.out.at_ (Nat.lt_succ_self a) hlt
        have HGC := hide (And.intro a2 a5)
        have n1 := HM6.out.ne (Nat.lt_succ_self a) a1
        have n2 : ¬ w.heap.size = g := by have := HZ2.out; omega
        have hhw := HM6.out.lt.2
        have HDW := hide (fun (W : World) (hE : Ext w W) => HDD.out a (by omega) W hE)
        have HTA := hide (HT0.out a)
        obtain ⟨L, hL⟩ : ∃ L, D a = L := ⟨_, rfl⟩
        rw [hL] at HDW HTA
        have hT2 := HTZ.out.ext HE6.out
        have HT := hide hT2
        have kT := HT.out; simp only [Tr, Bx, CellsAt, Nat.reduceAdd, Nat.zero_add, and_true] at kT; obtain ⟨⟨kz0, kf0, kc0_0, kc0_1⟩, kE⟩ := kT
        clear hL hT2 a6
        have HX := hide kE
        go_wp2_with fail
        have p1 : IntKind.i64.wrap ((a : Int) + 1) = (a : Int) + 1 := by rw [IntKind.wrap_i64]; omega
        go_region_held3 (fun w' => (∀ (q o : Nat), q < w6.heap.size → ¬ q = g → w'.cell? ⟨q, o, none⟩ = w6.cell? ⟨q, o, none⟩) ∧ w'.cell? ⟨g, a, none⟩ = some (cellV w' ⟨g, a, none⟩) ∧ (∀ (q o : Nat), q < w6.heap.size → w'.frozen? ⟨q, o, none⟩ = w6.frozen? ⟨q, o, none⟩) ∧ w6.grownBy w' (some g)) ((first | (apply GrSet _ HGC.out.1 HGC.out.2; repeat (first | exact kE | exact Ext.refl _ | apply Ext.alloc | apply Ext.drewN | apply Ext.drew | apply Ext.set0 | apply Ext.set1 | apply Ext.set2 | apply Ext.set3 | (refine Ext.setk ?_ (by omega) _) | (apply Ext.snoc; assumption))) | (apply GrS HGC.out.1 HGC.out.2; repeat (first | exact kE | exact Ext.refl _ | apply Ext.alloc | apply Ext.drewN | apply Ext.drew | apply Ext.set0 | apply Ext.set1 | apply Ext.set2 | apply Ext.set3 | (refine Ext.setk ?_ (by omega) _) | (apply Ext.snoc; assumption))))) ((first | (go_at_call 43; refine (HDW.out _ (HX.out.trans (by clear kE; repeat (first | exact kE | exact Ext.refl _ | apply Ext.alloc | apply Ext.drewN | apply Ext.drew | apply Ext.set0 | apply Ext.set1 | apply Ext.set2 | apply Ext.set3 | (refine Ext.setk ?_ (by omega) _) | (apply Ext.snoc; assumption))))).mono ?_; rintro e w7 ⟨rfl, hb7⟩)))
        clear p1
        have hb8 : Ext w6 w7 := ((Ext.refl w6).drew).trans hb7
        have HE9 := hide ((HE6.out.trans hb8).set (p := ⟨g, a, none⟩) a4 (.int .i64 (L : Int)))
        obtain ⟨g9, f1, f2, f3, f4, f5, f6⟩ := (HM6.out.ext hb8).at_ (Nat.lt_succ_self a) hlt
        have e9 : g = g9 := tr_gap hb8 hhw a1 f1
        subst e9
        have HM9 := hide ((f6 (L : Int)).congr (f' := Tf 0) fun i j hi hj => by
          by_cases hia : i = a
          · subst hia
            by_cases hja : j = i
            · subst hja
              rw [upd_same, HTA.out]
            · rw [upd_ne _ _ _ _ (.inr hja), HT1.out i j (fun e => hja e.symm)]
              show (if i = i then (0 : Int) else _) = 0
              rw [if_pos rfl]
          · rw [upd_ne _ _ _ _ (.inl hia)]
            show (if i = a then (0 : Int) else Tf 0 i j) = _
            rw [if_neg hia])
        clear f1 f2 f3 f4 f5 f6 HX hb7 hb8 HM6 HTA HGC a1 a2 a3 n1 n2 HT kE kc0_0 kc0_1 kf0 kz0 HE6 HDW
        obtain ⟨w8, hw8⟩ : ∃ w8, w8 = w7.setCell ⟨g, a, none⟩ (.int .i64 (L : Int)) := ⟨_, rfl⟩
        rw [← hw8] at HM9 HE9 ⊢
        clear hw8
        go_wp2_with fail
        go_roundw
        case rel => exact ⟨a + 1, by omega, by go_num, by first | exact HM9 | exact hide HM9.out, by first | exact HE9 | exact hide HE9.out⟩
        case measure => simp [intOf]; omega
      · obtain rfl : a = q := by omega
        have HT := hide (HTZ.out.ext HE.out)
        have kT := HT.out; simp only [Tr, Bx, CellsAt, Nat.reduceAdd, Nat.zero_add, and_true] at kT; obtain ⟨⟨kz0, kf0, kc0_0, kc0_1⟩, kE⟩ := kT
        have HMS := HM
        have HES := HE
        go_wp2_with fail
        clear kz0 kf0 kc0_0 kc0_1 kE
        clear HT HM HE
        go_loopw [41] (fun i wr => ∃ k : Nat, k ≤ E.length ∧ i = .int .i64 k ∧ Hid (Mat wr w2.heap.size w2.heap.size a a a 29 3 (Tf k)) ∧ Hid (Ext w2 wr)) (fun i _ => E.length - (intOf i).toNat)
        case atStart => exact ⟨0, Nat.zero_le _, rfl, HMS, HES⟩
        case round =>
          clear HMS HES
          obtain ⟨k, hk, rfl, HM, HE⟩ := hrel
          by_cases hlt : k < E.length
          · have hlz : (k : Int) < (E.length : Int) := by omega
            obtain ⟨b, off, rfl, hb, e0, e1⟩ := R2.at_ (HW.out.hs.ext (HTZ.out.2.trans HE.out)) hlt
            obtain ⟨hle, hl1, hl2⟩ := HLE.out k hlt
            rw [at2_eq hlt] at hle
            rw [hle] at e0 e1
            dsimp only at e0 e1
            have HTK := hide (HTP.out k)
            have HTZ0 := hide (HTS.out k)
            have HTBK := hide (fun i j => HTB.out k i j (by omega))
            obtain ⟨x, hx⟩ : ∃ x, s (2 * k) = x := ⟨_, rfl⟩
            obtain ⟨y, hy⟩ : ∃ y, s (2 * k + 1) = y := ⟨_, rfl⟩
            rw [hx] at e0 hl1 HTK HTZ0
            rw [hy] at e1 hl1 hl2 HTK
            clear hle hx hy
            have kE := HE.out
            by_cases hx0 : x = 0
            · subst hx0
              have HE5 := hide (HE.out.alloc (Obj.cells #[.int .i64 ((0 : Nat) : Int), .int .i64 (y : Int)] 56))
              have HM5 := hide (HM.out.ext ((Ext.refl _).alloc (Obj.cells #[.int .i64 ((0 : Nat) : Int), .int .i64 (y : Int)] 56)))
              go_wp2_with fail
              go_roundw
              case rel => exact ⟨k + 1, by omega, by go_num, hide (by rw [HTZ0.out rfl]; exact HM5.out), HE5⟩
              case measure => simp [intOf]; omega
            · obtain ⟨u, rfl⟩ : ∃ u, x = u + 1 := ⟨x - 1, by omega⟩
              obtain ⟨v, rfl⟩ : ∃ v, y = v + 1 := ⟨y - 1, by omega⟩
              have hua : u < a := by omega
              have hva : v < a := by omega
              have huv : u ≠ v := by omega
              have huz : (u : Int) < (a : Int) := by omega
              have hvz : (v : Int) < (a : Int) := by omega
              have p1 : IntKind.i64.wrap (((u : Int) + 1) - 1) = (u : Int) := by rw [IntKind.wrap_i64]; omega
              have p2 : IntKind.i64.wrap (((v : Int) + 1) - 1) = (v : Int) := by rw [IntKind.wrap_i64]; omega
              push_cast at e0 e1
              have p6 : IntKind.i64.wrap (u : Int) = (u : Int) := by rw [IntKind.wrap_i64]; omega
              have p7 : IntKind.i64.wrap (v : Int) = (v : Int) := by rw [IntKind.wrap_i64]; omega
              have p4 : (u : Int) + 1 - 1 = (u : Int) := by omega
              have p5 : (v : Int) + 1 - 1 = (v : Int) := by omega
              have p3 : (0 : Int) < ((u : Int) + 1) := by omega
              have HUP := hide (HTK.out u v rfl rfl huv)
              have bnd1 := HTBK.out u v
              have bnd2 := HTBK.out v u
              have HB2 := hide bnd2
              clear HTK HTZ0 HTBK hl1 hl2 hx0 bnd2
              obtain ⟨f0, hf0⟩ : ∃ f0, Tf k = f0 := ⟨_, rfl⟩
              rw [hf0] at HM HUP HB2 bnd1
              clear hf0
              have HX2 := hide ((Ext.refl wr).alloc (Obj.cells #[Value.int IntKind.i64 ((u : Int) + 1), Value.int IntKind.i64 ((v : Int) + 1)] 56))
              go_upto_region 15 with fail
              obtain ⟨w5, hw5⟩ : ∃ z, z = wr.alloc (Obj.cells #[Value.int IntKind.i64 ((u : Int) + 1), Value.int IntKind.i64 ((v : Int) + 1)] 56) := ⟨_, rfl⟩
              rw [← hw5] at HX2 ⊢
              have c0 : w5.cell? ⟨wr.heap.size, 0, none⟩ = some (.int .i64 ((u : Int) + 1)) := by rw [hw5]; simp [go_sem]
              have c1 : w5.cell? ⟨wr.heap.size, 1, none⟩ = some (.int .i64 ((v : Int) + 1)) := by rw [hw5]; simp [go_sem]
              have cz : wr.heap.size < w5.heap.size := by rw [hw5]; simp
              clear hw5
              obtain ⟨gu, b1, _, _, _, b5, _⟩ := HM.out.at_ hua hva
              obtain ⟨gv, d1, _, _, _, d5, _⟩ := HM.out.at_ hva hua
              have HGU := hide (And.intro b1 b5)
              have HGV := hide (And.intro d1 d5)
              have hhd := HM.out.lt.2
              have HHD := hide hhd
              clear b1 b5 d1 d5 hhd
              have HM5 := hide (HM.out.ext HX2.out)
              have HE5 := hide (HE.out.trans HX2.out)
              obtain ⟨g1, a1, a2, a3, a4, a5, a6⟩ := HM5.out.at_ hua hva
              have HA1 := hide a1
              have hhw := HM5.out.lt.2
              have k1 := ExtBy.cell (W := w5) hhw a1
              have k2 := ExtBy.cell (W := w5) a5 a2
              have k3 := ExtBy.cell (W := w5) cz c0
              have k4 := ExtBy.cell (W := w5) cz c1
              obtain ⟨z, hz⟩ : ∃ z, f0 u v = z := ⟨_, rfl⟩
              rw [hz] at k2
              have hbz : -40 ≤ z ∧ z ≤ 40 := by rw [← hz]; exact bnd1
              have hwz : IntKind.i64.wrap (z - 1) = z + -1 := by rw [IntKind.wrap_i64]; omega
              clear a1 a2 a3 a4 a6 hbz
              
              refine wp_region_tailE 13 (by kernel_rfl) (by kernel_rfl) ?_; simp only [List.take_succ_cons, List.take_zero, List.drop_succ_cons, List.drop_zero]; (repeat (refine WQ.step (fun K hK => ?_); have HK := hide hK; clear hK; go_simp; refine HK.out _ ?_; clear HK K)); refine WQ.done ?_; intro w6 hw'; obtain ⟨⟨_, hw6⟩, hw''⟩ := hw'; subst hw''
              have HM2 := hide (HM5.out.ext hw6)
              obtain ⟨g9, f1, f2, f3, f4, f5, f6⟩ := HM2.out.at_ hua hva
              have e9 := tr_gap hw6 hhw HA1.out f1
              subst e9
              have n1 := HM5.out.ne hua HA1.out
              have hnv := (hw6.facts.1 _ v hhw).trans ((HX2.out.facts.1 _ v HHD.out).trans HGV.out.1)
              have HHZ := hide (hw6.facts.2.2 _ hhw)
              have hf7 := f6 (z + -1)
              have he7 := (HE5.out.trans hw6).set (p := ⟨g1, v, none⟩) f4 (.int .i64 (z + -1))
              have hcz := hw6.facts.2.2 _ cz
              have hd0 := (hw6.facts.1 _ 0 cz).trans c0
              have hd1 := (hw6.facts.1 _ 1 cz).trans c1
              have hne1 : wr.heap.size ≠ g1 := by have := (show g1 < wr.heap.size from by have q := tr_gap HX2.out HHD.out HGU.out.1 HA1.out; rw [← q]; exact HGU.out.2); omega
              clear k1 k2 k3 k4 HA1 hhw a5 HM2 f1 f6 f4 c0 c1 cz
              go_wp2_with fail
              obtain ⟨wz1, hnew⟩ : ∃ w8, w8 = w6.setCell ⟨g1, v, none⟩ (.int .i64 (z + -1)) := ⟨_, rfl⟩
              rw [← hnew] at hf7 he7 ⊢
              rw [← hz] at hf7
              have c0 : wz1.cell? ⟨wr.heap.size, 0, none⟩ = some (.int .i64 ((u : Int) + 1)) := by rw [hnew]; exact (World.cell?_of_block (Below.heap_setCell _ _ _ _ hne1)).trans hd0
              have c1 : wz1.cell? ⟨wr.heap.size, 1, none⟩ = some (.int .i64 ((v : Int) + 1)) := by rw [hnew]; exact (World.cell?_of_block (Below.heap_setCell _ _ _ _ hne1)).trans hd1
              have cz : wr.heap.size < wz1.heap.size := by rw [hnew]; simpa using hcz
              have HCV := hide (show wz1.cell? ⟨w2.heap.size, v, none⟩ = some (.slice (some ⟨gv, 0, none⟩) a a) by rw [hnew]; exact (World.cell?_of_block (Below.heap_setCell _ _ _ _ n1)).trans hnv)
              have HHD2 := hide (show w2.heap.size < wz1.heap.size by rw [hnew]; simpa using HHZ.out)
              clear n1 hnv HHZ
              have HMn1 := hide hf7
              have HEn1 := hide he7
              clear hf7 he7 hz hwz f2 f3 f5 hnew hd0 hd1 hcz hne1
              obtain ⟨f1, hf1⟩ : ∃ f1, upd f0 u v (f0 u v + -1) = f1 := ⟨_, rfl⟩
              have HB3 := hide (show f1 v u = f0 v u from by rw [← hf1, upd_ne _ _ _ _ (.inl (fun e => huv e.symm))])
              rw [hf1] at HMn1 HUP
              clear hf1
              go_upto_region 16 with fail
              obtain ⟨g1, a1, a2, a3, a4, a5, a6⟩ := HMn1.out.at_ hva hua
              have HA1 := hide a1
              have hhw := HMn1.out.lt.2
              have k1 := ExtBy.cell (W := wz1) hhw a1
              have k2 := ExtBy.cell (W := wz1) a5 a2
              have k3 := ExtBy.cell (W := wz1) cz c0
              have k4 := ExtBy.cell (W := wz1) cz c1
              obtain ⟨z, hz⟩ : ∃ z, f1 v u = z := ⟨_, rfl⟩
              rw [hz] at k2
              have hbz : -40 ≤ z ∧ z ≤ 40 := by rw [← hz, HB3.out]; exact HB2.out
              have hwz : IntKind.i64.wrap (z - 1) = z + -1 := by rw [IntKind.wrap_i64]; omega
              clear a1 a2 a3 a4 a6 hbz
              
              refine wp_region_tailE 13 (by kernel_rfl) (by kernel_rfl) ?_; simp only [List.take_succ_cons, List.take_zero, List.drop_succ_cons, List.drop_zero]; (repeat (refine WQ.step (fun K hK => ?_); have HK := hide hK; clear hK; go_simp; refine HK.out _ ?_; clear HK K)); refine WQ.done ?_; intro w7 hw'; obtain ⟨⟨_, hw7⟩, hw''⟩ := hw'; subst hw''
              have HM2 := hide (HMn1.out.ext hw7)
              obtain ⟨g9, f1, f2, f3, f4, f5, f6⟩ := HM2.out.at_ hva hua
              have e9 := tr_gap hw7 hhw HA1.out f1
              subst e9
              have hf7 := f6 (z + -1)
              have he7 := (HEn1.out.trans hw7).set (p := ⟨g1, u, none⟩) f4 (.int .i64 (z + -1))
              have hcz := hw7.facts.2.2 _ cz
              have hd0 := (hw7.facts.1 _ 0 cz).trans c0
              have hd1 := (hw7.facts.1 _ 1 cz).trans c1
              have hne1 : wr.heap.size ≠ g1 := by have := (show g1 < wr.heap.size from by have q := tr_gap (Ext.refl _) HHD2.out HCV.out HA1.out; rw [← q]; exact HGV.out.2); omega
              clear k1 k2 k3 k4 HA1 hhw a5 HM2 f1 f6 f4 c0 c1 cz
              go_wp2_with fail
              obtain ⟨wz2, hnew⟩ : ∃ w8, w8 = w7.setCell ⟨g1, u, none⟩ (.int .i64 (z + -1)) := ⟨_, rfl⟩
              rw [← hnew] at hf7 he7 ⊢
              rw [← hz] at hf7
              have c0 : wz2.cell? ⟨wr.heap.size, 0, none⟩ = some (.int .i64 ((u : Int) + 1)) := by rw [hnew]; exact (World.cell?_of_block (Below.heap_setCell _ _ _ _ hne1)).trans hd0
              have c1 : wz2.cell? ⟨wr.heap.size, 1, none⟩ = some (.int .i64 ((v : Int) + 1)) := by rw [hnew]; exact (World.cell?_of_block (Below.heap_setCell _ _ _ _ hne1)).trans hd1
              have cz : wr.heap.size < wz2.heap.size := by rw [hnew]; simpa using hcz
              have HMn2 := hide hf7
              have HEn2 := hide he7
              clear hf7 he7 hz hwz f2 f3 f5 hnew hd0 hd1 hcz hne1
              rw [HB3.out, HUP.out] at HMn2
              go_wp2_with fail
              go_roundw
              case rel => exact ⟨k + 1, by omega, by go_num, HMn2, HEn2⟩
              case measure => simp [intOf]; omega
          · obtain rfl : k = E.length := by omega
            have HX := hide (Ext.trans (HTZ.out.2) HE.out)
            have HBB := HZ2
            go_wp2_with fail
            refine (determinant_any a w2.heap.size a w2.heap.size (Tf E.length) _ (by omega) (Nat.le_refl _) HSM.out HM.out).mono ?_
            rintro e w9 ⟨rfl, hb9⟩
            have HE9 := hide (show Ext w w9 from Below.trans HX.out (Below.mono hb9 (Nat.le_of_lt HBB.out)))
            clear hb9
            go_wp2_with fail
            go_ret
            exact ⟨ret_int HV.out.symm, HE9.out⟩
end Go.Proofs.Ytabgcpoaepafjaa
namespace Go.Proofs.Ytabgcpoaepafjaa
open Go.RowKit
theorem pair_info : (Try.prog.info? 61).map (fun i => (i.zero, i.size, i.bytes)) = some (some (.agg #[.int .i64 0, .int .i64 0]), 2, 16) := by kernel_rfl
theorem pair_one (x y : Int) : ∀ u ∈ [Value.int .i64 x, Value.int .i64 y], u.oneCell' = true := by
  intro u hu
  simp at hu
  rcases hu with rfl | rfl <;> rfl
theorem enc2_snoc2 (l : List P2) (x y : Int) : enc2 (l ++ [(x, y)]) = enc2 l ++ [.int .i64 x, .int .i64 y] := by simp [enc2]
theorem prs_take {X Y : Nat → Nat} {K : List Nat} {k : Nat} (hk : k < K.length) : prs X Y (K.take (k + 1)) = prs X Y (K.take k) ++ [((X K[k] : Int), (Y K[k] : Int))] := by
  unfold prs
  rw [List.take_succ_eq_append_getElem hk, List.map_append]
  rfl
theorem prs_length (X Y : Nat → Nat) (K : List Nat) : (prs X Y K).length = K.length := by simp [prs]
theorem prs_ends {X Y : Nat → Nat} {K : List Nat} {n : Nat} (hb : ∀ k, k ∈ K → X k ≤ n ∧ Y k ≤ n) : ∀ j, j < (prs X Y K).length → ∃ f t : Nat, at2 (prs X Y K) j = ((f : Int), (t : Int)) ∧ f ≤ n ∧ t ≤ n := fun j hj => by
  rw [prs_length] at hj
  exact ⟨X K[j], Y K[j], by simp [at2, prs, hj], hb _ (List.getElem_mem hj)⟩
set_option maxRecDepth 20000 in
set_option maxHeartbeats 8000000 in
theorem IsSpanning_nil (N E : List P2) (A B : Option Addr) (c c' : Nat) (w : World) (hw : WR w N E A B c c') (hwh : wholeB N E = true) :
    Calls Try.prog 11 #[.agg #[.slice A N.length c, .slice B E.length c'], .slice none 0 0] w fun e w' => e = .returned (.bool false) ∧ Ext w w' := by
  have HC := hide (fun (W : World) (hE : Ext w W) => by have h := IsWhole_any N E A B c c' W (hw.ext hE); rw [hwh] at h; exact h)
  obtain ⟨hm, hm0, hn2, hn12, _, _⟩ := whole_m hwh
  have HRI := hide (fun W => by have h := rising_any [] E.length none 0 W (by simp) (by omega) List.Pairwise.nil (fun k hk => by cases hk) ⟨rfl, fun h => absurd h (by decide)⟩; exact h)
  clear hw hwh
  
  go_enter Try.func11, Try.ntmps11
  go_wp2_with fail
  obtain ⟨w0, hw⟩ : ∃ w1, w1 = w.alloc (Obj.cells #[Value.slice A N.length c, Value.slice B E.length c'] 27) := ⟨_, rfl⟩; rw [← hw]; have kT : Tr [(w.heap.size, [.slice A N.length c, .slice B E.length c'])] w w0 := (by rw [hw]; exact ⟨by (first | (simp [Bx, CellsAt, go_sem, *]; done) | (simp [Bx, CellsAt, go_sem, *]; omega)), by (repeat (first | exact kE | exact Ext.refl _ | apply Ext.alloc | apply Ext.drewN | apply Ext.drew | apply Ext.set0 | apply Ext.set1 | apply Ext.set2 | apply Ext.set3 | (refine Ext.setk ?_ (by omega) _) | (apply Ext.snoc; assumption)))⟩); have HT := hide kT; clear hw kT; have kT := HT.out; simp only [Tr, Bx, CellsAt, Nat.reduceAdd, Nat.zero_add, and_true] at kT; obtain ⟨⟨kz0, kf0, kc0_0, kc0_1⟩, kE⟩ := kT
  have hw1 : IntKind.i64.wrap ((E.length : Int) - 1) = (E.length : Int) - 1 := by rw [IntKind.wrap_i64]; omega
  have hw2 : IntKind.i64.wrap ((N.length : Int) - 1) = (N.length : Int) - 1 := by rw [IntKind.wrap_i64]; omega
  have hne : ((0 : Int) != (N.length : Int) - 1) = true := by simp; omega
  refine (HC.out w0 kE).mono ?_; rintro e w1 ⟨rfl, hb⟩; have HT := hide (HT.out.ext hb); have Hw1 := hide hb; clear hb; clear kz0 kf0 kc0_0 kc0_1 kE; have kT := HT.out; simp only [Tr, Bx, CellsAt, Nat.reduceAdd, Nat.zero_add, and_true] at kT; obtain ⟨⟨kz0, kf0, kc0_0, kc0_1⟩, kE⟩ := kT
  go_wp2_with (go_at_call 45; refine (HRI.out _).mono ?_; rintro e w' ⟨rfl, rfl⟩)
  go_ret
  exact ⟨rfl, kE⟩
set_option maxRecDepth 20000 in
set_option maxHeartbeats 8000000 in
theorem IsSpanning_tree (N E : List P2) (A B A3 : Option Addr) (c c' c3 : Nat) (K : List Nat) (w : World) (hw : WR w N E A B c c') (hwh : wholeB N E = true) (hKl : K.length = N.length - 1) (hKp : K.Pairwise (· < ·)) (hKm : ∀ k ∈ K, k < E.length) (hr : RI w A3 (castL K))
    (hj : joinedV (prs (fun k => sE E (2 * k)) (fun k => sE E (2 * k + 1)) K) = 2 ^ N.length - 1) :
    Calls Try.prog 11 #[.agg #[.slice A N.length c, .slice B E.length c'], .slice A3 K.length c3] w fun e w' => e = .returned (.bool true) ∧ Ext w w' := by
  obtain ⟨i0, hi, hz0, hz1, hz2⟩ := info_parts pair_info
  have HC := hide (fun (W : World) (hE : Ext w W) => by have h := IsWhole_any N E A B c c' W (hw.ext hE); rw [hwh] at h; exact h)
  obtain ⟨hm, hm0, hn2, hn12, _, _⟩ := whole_m hwh
  have hok := (wholeB_iff.1 hwh).1
  have hK11 : K.length ≤ 11 := by omega
  have HRI := hide (fun (W : World) (hE : Ext w W) => rising_any K E.length A3 c3 W (by omega) (by omega) hKp hKm (Rds.ext hr hE))
  have HR := hide (fun (W : World) (hE : Ext w W) => Rds.ext hr hE)
  have HLE := hide (fun k (hk : k < E.length) => sE_lead hok hk)
  have hb : ∀ k, k ∈ K → (fun k => sE E (2 * k)) k ≤ 12 ∧ (fun k => sE E (2 * k + 1)) k ≤ 12 := fun k hk => by
    have h := sE_lead hok (hKm k hk)
    show sE E (2 * k) ≤ 12 ∧ sE E (2 * k + 1) ≤ 12
    omega
  have hends := prs_ends hb
  obtain ⟨Ps, hPs⟩ : ∃ Ps, prs (fun k => sE E (2 * k)) (fun k => sE E (2 * k + 1)) K = Ps := ⟨_, rfl⟩
  have hPl : Ps.length = K.length := by rw [← hPs, prs_length]
  rw [hPs] at hends hj
  have HJ := hide (fun (A4 : Option Addr) (c4 : Nat) (W : World) (h : R2 W A4 Ps) => (show Calls Try.prog 46 #[.slice A4 K.length c4] W fun e w' => e = .returned (.int .i64 ((2 ^ N.length - 1 : Nat) : Int)) ∧ Ext W w' by
    have q := joined_any Ps 12 A4 c4 W (by omega) (by omega) hends h
    rw [hj, hPl] at q
    exact q))
  obtain ⟨s, hs⟩ : ∃ s, sE E = s := ⟨_, rfl⟩
  rw [hs] at HLE hPs
  have HPT := hide (fun k (hk : k < K.length) => prs_take (X := fun k => s (2 * k)) (Y := fun k => s (2 * k + 1)) hk)
  obtain ⟨F, hF⟩ : ∃ F : Nat → List P2, (fun k => prs (fun k => s (2 * k)) (fun k => s (2 * k + 1)) (K.take k)) = F := ⟨_, rfl⟩
  have hFk : ∀ k, prs (fun k => s (2 * k)) (fun k => s (2 * k + 1)) (K.take k) = F k := fun k => congrFun hF k
  have HF0 := hide (show F 0 = [] by rw [← hFk]; rfl)
  have HPT := hide (fun k (hk : k < K.length) => (by have q := HPT.out k hk; rw [hFk, hFk] at q; exact q : F (k + 1) = F k ++ [((s (2 * K[k]) : Int), (s (2 * K[k] + 1) : Int))]))
  have hFe : prs (fun k => s (2 * k)) (fun k => s (2 * k + 1)) K = F K.length := by rw [← hFk, List.take_length]
  rw [hFe] at hPs
  have HPS := hide hPs
  have HKM := hide hKm
  have HW := hide hw
  have hp13 : 2 ^ N.length ≤ 2 ^ 12 := Nat.pow_le_pow_right (by decide) hn12
  obtain ⟨R, hR⟩ : ∃ R, 2 ^ N.length = R + 1 := ⟨2 ^ N.length - 1, by have := Nat.two_pow_pos N.length; omega⟩
  have HJ := hide (fun (A4 : Option Addr) (c4 : Nat) (W : World) (h : R2 W A4 Ps) => (show Calls Try.prog 46 #[.slice A4 K.length c4] W fun e w' => e = .returned (.int .i64 (R : Int)) ∧ Ext W w' by
    have q := HJ.out A4 c4 W h
    rw [hR, Nat.add_sub_cancel] at q
    exact q))
  have hwr : IntKind.i64.wrap (R : Int) = (R : Int) := by rw [IntKind.wrap_i64]; omega
  have hwl : IntKind.i64.wrap ((2 : Int) ^ N.length) = (R : Int) + 1 := by rw [shl_one (by omega), hR]; push_cast; rfl
  have HP := hide (And.intro hwl hwr)
  have HPL := hide hPl
  clear hwl hp13 hR hwr hPl
  clear hw hwh hKp hKm hr hj hb hs hF hFk hFe hok hPs hends
  
  go_enter Try.func11, Try.ntmps11
  go_wp2_with fail
  obtain ⟨w0, hw⟩ : ∃ w1, w1 = w.alloc (Obj.cells #[Value.slice A N.length c, Value.slice B E.length c'] 27) := ⟨_, rfl⟩; rw [← hw]; have kT : Tr [(w.heap.size, [.slice A N.length c, .slice B E.length c'])] w w0 := (by rw [hw]; exact ⟨by (first | (simp [Bx, CellsAt, go_sem, *]; done) | (simp [Bx, CellsAt, go_sem, *]; omega)), by (repeat (first | exact kE | exact Ext.refl _ | apply Ext.alloc | apply Ext.drewN | apply Ext.drew | apply Ext.set0 | apply Ext.set1 | apply Ext.set2 | apply Ext.set3 | (refine Ext.setk ?_ (by omega) _) | (apply Ext.snoc; assumption)))⟩); have HT := hide kT; clear hw kT; have kT := HT.out; simp only [Tr, Bx, CellsAt, Nat.reduceAdd, Nat.zero_add, and_true] at kT; obtain ⟨⟨kz0, kf0, kc0_0, kc0_1⟩, kE⟩ := kT
  have hw1 : IntKind.i64.wrap ((E.length : Int) - 1) = (E.length : Int) - 1 := by rw [IntKind.wrap_i64]; omega
  have hw2 : IntKind.i64.wrap ((N.length : Int) - 1) = (N.length : Int) - 1 := by rw [IntKind.wrap_i64]; omega
  have hne : ((K.length : Int) != (N.length : Int) - 1) = false := by simp; omega
  have HKL := hide hKl
  clear hKl
  refine (HC.out w0 kE).mono ?_; rintro e w1 ⟨rfl, hb⟩; have HT := hide (HT.out.ext hb); have Hw1 := hide hb; clear hb; clear kz0 kf0 kc0_0 kc0_1 kE; have kT := HT.out; simp only [Tr, Bx, CellsAt, Nat.reduceAdd, Nat.zero_add, and_true] at kT; obtain ⟨⟨kz0, kf0, kc0_0, kc0_1⟩, kE⟩ := kT
  go_wp2_with (go_at_call 45; refine (HRI.out _ kE).mono ?_; rintro e w' ⟨rfl, rfl⟩)
  have HTZ := HT
  have HE1 := hide kE
  clear hw1 hne HT HRI HC hw2
  clear kz0 kf0 kc0_0 kc0_1 kE
  go_loopw [5, 31] (fun v i wr => ∃ k : Nat, k ≤ K.length ∧ i = .int .i64 k ∧ Hid (wr.ownsRow w1.heap.size 61 2 v k (enc2 (F k))) ∧ Hid (Ext w1 wr)) (fun _ i _ => K.length - (intOf i).toNat)
  case atStart => exact ⟨0, Nat.zero_le _, rfl, hide (by rw [HF0.out]; exact World.ownsRow_nil _ _ _ _), hide (Ext.refl _)⟩
  case round =>
    obtain ⟨k, hk, rfl, HO, HE⟩ := hrel
    have HT := hide (HTZ.out.ext HE.out)
    have kT := HT.out; simp only [Tr, Bx, CellsAt, Nat.reduceAdd, Nat.zero_add, and_true] at kT; obtain ⟨⟨kz0, kf0, kc0_0, kc0_1⟩, kE⟩ := kT
    by_cases hlt : k < K.length
    · have hlz : (k : Int) < (K.length : Int) := by omega
      obtain ⟨b3, o3, rfl, hb3, cj5⟩ := RI.at_ (HR.out _ HE1.out) (k := k) (by rw [castL_length]; exact hlt)
      rw [castL_at hlt] at cj5
      have hKk := HKM.out _ (List.getElem_mem hlt)
      have HTK := hide (HPT.out k hlt)
      obtain ⟨j, hj⟩ : ∃ j, K[k] = j := ⟨_, rfl⟩
      rw [hj] at cj5 hKk HTK
      obtain ⟨b4, o4, rfl, hb4, e05, e15⟩ := R2.at_ (HW.out.hs.ext HE1.out) hKk
      have hle := (HLE.out j hKk).1
      rw [at2_eq hKk] at hle
      rw [hle] at e05 e15
      dsimp only at e05 e15
      obtain ⟨x, hx⟩ : ∃ x : Nat, s (2 * j) = x := ⟨_, rfl⟩
      obtain ⟨y, hy⟩ : ∃ y : Nat, s (2 * j + 1) = y := ⟨_, rfl⟩
      rw [hx] at e05 HTK
      rw [hy] at e15 HTK
      have hjz : (j : Int) < (E.length : Int) := by omega
      have cj := (HE.out.facts.1 _ _ hb3).trans cj5
      have e0 := (HE.out.facts.1 _ _ hb4).trans e05
      have e1 := (HE.out.facts.1 _ _ hb4).trans e15
      have hsz := HE.out.size
      have hz1' := HE.out.facts.2.2 _ hb3
      have hz2' := HE.out.facts.2.2 _ hb4
      have hbz := HTZ.out.1.1.1
      have HB := hide (own_base HO.out (Nat.le_refl _))
      have HN1 := hide (show u5.ownBlock ≠ some w.heap.size from fun e => by have := HB.out _ e; omega)
      have HN2 := hide (show u5.ownBlock ≠ some b3 from fun e => by have := HB.out _ e; omega)
      have HN3 := hide (show u5.ownBlock ≠ some b4 from fun e => by have := HB.out _ e; omega)
      clear hj hle hx hy cj5 e05 e15 hbz
      go_wp2_with fail
      go_region_held3 (fun w' => w'.cell? ⟨w.heap.size, 0, none⟩ = some (.slice A N.length c) ∧ w'.cell? ⟨w.heap.size, 1, none⟩ = some (.slice (some ⟨b4, o4, none⟩) E.length c') ∧ w'.cell? ⟨b3, o3 + k, none⟩ = some (.int .i64 (j : Nat)) ∧ w'.cell? ⟨b4, o4 + j * 2, none⟩ = some (.int .i64 (x : Nat)) ∧ w'.cell? ⟨b4, o4 + j * 2 + 1, none⟩ = some (.int .i64 (y : Nat)))
        (first | go_keep | (go_split_ands; refine ⟨?_, ?_, ?_, ?_, ?_⟩ <;> (rw [hgrow.cell_far _ (by simp; omega) (by first | exact fun e => HN1.out e.symm | exact HN1.out | exact fun e => HN2.out e.symm | exact HN2.out | exact fun e => HN3.out e.symm | exact HN3.out)]; assumption)))
        ((refine step_append_lies _ (by rfl) _ _ _ (by rfl) w1.heap.size 61 i0 (.agg #[.int .i64 0, .int .i64 0]) 2 16 Try.underlying60 hi hz0 hz1 hz2 rfl (by omega) u5 k (enc2 (F k)) (by rfl) ((own_ext HO.out ((Ext.refl _).alloc _)).drew) ⟨wr.heap.size, 0, none⟩ 1 1 [.int .i64 (x : Nat), .int .i64 (y : Nat)] (by rfl) (by rfl) (World.news_of_block (cs := #[.int .i64 (x : Nat), .int .i64 (y : Nat)]) (t := 61) (fr := (0, 0)) (heap_alloc_new wr _)) (pair_one _ _) (by omega) (by unfold maxLen; omega) (by omega) (by simp; omega) (wr.heap.size + 1) (by simp) ?_; intro gg cap w6 hown6 hgrow hat hlt4))
      go_wp2
      have HO6 := hide (show w6.ownsRow w1.heap.size 61 2 (.slice (some ⟨gg, 0, none⟩) (k + 1) cap) (k + 1) (enc2 (F (k + 1))) by
        rw [HTK.out, enc2_snoc2]
        exact hown6)
      have HE6 := hide (Ext.grown (HE.out.trans (((Ext.refl wr).alloc _).drew)) hgrow HB.out)
      clear hown6 hgrow hat hlt4
      go_roundw
      case rel => exact ⟨k + 1, by omega, by go_num, HO6, HE6⟩
      case measure => simp [intOf]; omega
    · obtain rfl : k = K.length := by omega
      obtain ⟨A4, c4, rfl, _⟩ := own_slice HO.out
      have HJW := hide (fun (W : World) (hE : Ext wr W) => HJ.out A4 c4 W (by
        have h := Rds.of_own (own_ext HO.out hE)
        rw [HPS.out, ← HPL.out] at h
        exact h))
      have HE9 := hide (HE1.out.trans HE.out)
      go_wp2_with fail
      obtain ⟨hwl, hr1⟩ := HP.out
      have kq0_0 := ExtBy.cell (W := wr) kz0 kc0_0; have kq0_1 := ExtBy.cell (W := wr) kz0 kc0_1; refine wp_region_quietE (by kernel_rfl) (by kernel_rfl) ?_; (repeat (refine WQ.step (fun K hK => ?_); have HK := hide hK; clear hK; go_simp; refine HK.out _ ?_; clear HK K)); (refine WQ.step (fun K hK => ?_); have HK := hide hK; clear hK; go_simp; apply Exists.intro; refine ⟨fun _ => ?_, HK.out _ ?_⟩; (go_at_call 46; refine extby_of (HJW.out _ (ExtBy.h _))); clear HK K); (repeat (refine WQ.step (fun K hK => ?_); have HK := hide hK; clear hK; go_simp; refine HK.out _ ?_; clear HK K)); refine WQ.done ?_; intro w9 hw'; obtain ⟨⟨_, hw9⟩, hw''⟩ := hw'; subst hw''; clear kq0_0 kq0_1; have HT := hide (HT.out.ext hw9); have Hw9 := hide hw9; clear hw9 kz0 kf0 kc0_0 kc0_1 kE; have kT := HT.out; simp only [Tr, Bx, CellsAt, Nat.reduceAdd, Nat.zero_add, and_true] at kT; obtain ⟨⟨kz0, kf0, kc0_0, kc0_1⟩, kE⟩ := kT
      go_wp2_with fail
      go_ret
      exact ⟨by simp, HE9.out.trans Hw9.out⟩
end Go.Proofs.Ytabgcpoaepafjaa
