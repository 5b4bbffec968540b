/- The walk of the law on light. No condition but that the argument lies in memory. -/
import Derived.Test.YtabgcpoaepafjaaGreatAnyD
import Derived.Test.YtabgcpoaepafjaaGreatLightP
import Derived.Test.YtabgcpoaepafjaaGreatColors
import Derived.Test.YtabgcpoaepafjaaGreatDrawA
import Derived.Deep.CutRange
set_option linter.unusedSimpArgs false
set_option linter.unusedVariables false
namespace Go.Proofs.YtabgcpoaepafjaaGreat
open Go.RowKit

theorem with_is {S : List P3} {f n : Nat} (hf : f < S.length) (hn : S.length = n) {ad : Addr} {cp : Nat} {w : World} (hl : S.length ≤ 1048576) (hr : R3 w (some ad) S) :
    Calls Tryz.prog 27 #[.slice (some ad) n cp, .int .i64 (f : Int), .agg #[.int .i64 1000, .int .i64 1000, .int .i64 1000]] w fun e w' => ∃ Ar cr, e = .returned (.tuple #[.slice Ar n cr, .bool true]) ∧ R3 w' Ar (S.set f (1000, 1000, 1000)) ∧ Ext w w' := by
  subst hn
  have h := WithStain_any S ad cp (f : Int) 1000 1000 1000 w hl hr
  have e1 : withOk S (f : Int) 1000 1000 1000 = true := by
    unfold withOk
    have : inR (f : Int) 0 ((S.length : Int) - 1) = true := by
      simp only [inR, Bool.and_eq_true, decide_eq_true_eq]
      omega
    rw [this]
    rfl
  have e2 : withV S (f : Int) 1000 1000 1000 = S.set f (1000, 1000, 1000) := by
    unfold withV
    rw [if_pos e1]
    simp
  rw [e1, e2, List.length_set] at h
  refine h.mono ?_
  rintro e w' ⟨Ar, cr, he, ho, hE⟩
  refine ⟨Ar, cr, he, ?_, hE⟩
  have q := Rds.of_own ho
  rw [← List.length_set (i := f) (a := ((1000 : Int), (1000 : Int), (1000 : Int)))] at q
  exact q
theorem light_of {N E : List P2} {X : List P3} {A B Ax : Option Addr} {c c' cx n : Nat} {u v s : Int} {W : World} (hw : WR W N E A B c c') (hX : X.length = n) (hn : n ≤ 1048576) (hr : R3 W Ax X) (hV : lightV N E X = (u, v, s)) :
    Calls Tryz.prog 19 #[.agg #[.slice A N.length c, .slice B E.length c'], .slice Ax n cx] W fun e w' => e = .returned (.tuple #[.int .i64 u, .int .i64 v, .int .i64 s]) ∧ Ext W w' := by
  subst hX
  have h := LightOf_any N E X A B Ax c c' cx W hw hn hr
  rw [hV] at h
  exact h
theorem share_of {N E : List P2} {X : List P3} {A B Ax : Option Addr} {c c' cx n : Nat} {s : Int} {W : World} (hw : WR W N E A B c c') (hX : X.length = n) (hn : n ≤ 1048576) (hr : R3 W Ax X) (hV : shareI N E X = s) :
    Calls Tryz.prog 20 #[.agg #[.slice A N.length c, .slice B E.length c'], .slice Ax n cx] W fun e w' => e = .returned (.int .i64 s) ∧ Ext W w' := by
  subst hX
  have h := ShareOfLight_any N E X A B Ax c c' cx W hw hn hr
  rw [hV] at h
  exact h
/-- Two colors laid in the other order. -/
theorem color_two (w : World) : Calls Tryz.prog 24 #[.slice (some ⟨w.heap.size + 1, 0, none⟩) 2 2, .slice (some ⟨w.heap.size, 0, none⟩) 2 2] ((w.alloc (Obj.cells #[.int .i64 1000, .int .i64 1000, .int .i64 1000, .int .i64 0, .int .i64 0, .int .i64 0] 50)).alloc (Obj.cells #[.int .i64 1, .int .i64 0] 3)) fun e w' => ∃ q c, e = .returned (.tuple #[.slice (some ⟨q, 0, none⟩) 2 c, .bool true]) ∧ q < w'.heap.size ∧ (∀ j u, (enc3 [(0, 0, 0), (1000, 1000, 1000)])[j]? = some u → w'.cell? ⟨q, j, none⟩ = some u) ∧ (∀ j u, (enc3 [(1000, 1000, 1000), (0, 0, 0)])[j]? = some u → w'.cell? ⟨w.heap.size, j, none⟩ = some u) ∧ w.heap.size < w'.heap.size ∧ Ext w w' := by
  obtain ⟨w1, h1⟩ : ∃ W, W = w.alloc (Obj.cells #[.int .i64 1000, .int .i64 1000, .int .i64 1000, .int .i64 0, .int .i64 0, .int .i64 0] 50) := ⟨_, rfl⟩
  have hz : w1.heap.size = w.heap.size + 1 := by rw [h1]; simp
  have hE1 : Ext w w1 := by rw [h1]; exact (Ext.refl w).alloc _
  have hc1 : ∀ j u, (enc3 [(1000, 1000, 1000), (0, 0, 0)])[j]? = some u → w1.cell? ⟨w.heap.size, j, none⟩ = some u := fun j u hj => by
    rw [h1, World.cell?_alloc_new]
    simpa [enc3] using hj
  rw [← h1, ← hz]
  clear h1
  obtain ⟨w2, h2⟩ : ∃ W, W = w1.alloc (Obj.cells #[.int .i64 1, .int .i64 0] 3) := ⟨_, rfl⟩
  have hE2 : Ext w1 w2 := by rw [h2]; exact (Ext.refl w1).alloc _
  have hz2 : w1.heap.size < w2.heap.size := by rw [h2]; simp
  have hc2 : ∀ j u, (encI [1, 0])[j]? = some u → w2.cell? ⟨w1.heap.size, j, none⟩ = some u := fun j u hj => by
    rw [h2, World.cell?_alloc_new]
    simpa [encI] using hj
  rw [← h2]
  clear h2
  have hR3 : R3 w2 (some ⟨w.heap.size, 0, none⟩) [(1000, 1000, 1000), (0, 0, 0)] := ⟨rfl, fun _ => ⟨w.heap.size, 0, rfl, by omega, fun j u hj => by
    rw [Nat.zero_add]
    exact (hE2.facts.1 _ _ (by omega)).trans (hc1 j u hj)⟩⟩
  have hRI : RI w2 (some ⟨w1.heap.size, 0, none⟩) [1, 0] := ⟨rfl, fun _ => ⟨w1.heap.size, 0, rfl, hz2, fun j u hj => by
    rw [Nat.zero_add]
    exact hc2 j u hj⟩⟩
  have h := ColorStains_any [1, 0] (some ⟨w1.heap.size, 0, none⟩) 2 [(1000, 1000, 1000), (0, 0, 0)] (some ⟨w.heap.size, 0, none⟩) 2 w2 (by simp) (by simp) hRI hR3
  have e1 : colorOk [1, 0] [(1000, 1000, 1000), (0, 0, 0)] = true := by decide
  have e2 : colorV [1, 0] [(1000, 1000, 1000), (0, 0, 0)] = [(0, 0, 0), (1000, 1000, 1000)] := by decide
  rw [e1, e2] at h
  refine h.mono ?_
  rintro e w' ⟨Ar, cr, he, ho, hE⟩
  have hr := Rds.of_own ho
  obtain ⟨A', c', q1, _, q2, q3⟩ := own_slice ho
  injection q1 with q1 _ q4
  subst q1 q4
  cases Ar with
  | none => exact absurd (q2 rfl) (by decide)
  | some ad =>
    obtain ⟨q, rfl, _, hq, _⟩ := q3 _ rfl
    refine ⟨q, cr, he, hq, fun j u hj => ?_, fun j u hj => (hE.facts.1 _ _ (by omega)).trans ((hE2.facts.1 _ _ (by omega)).trans (hc1 j u hj)), by have := hE.size; omega, hE1.trans (hE2.trans hE)⟩
    obtain ⟨b, off, e, _, hc⟩ := hr.2 (by decide)
    injection e with e
    injection e with e3 e4
    subst e3 e4
    simpa using hc j u hj
set_option maxRecDepth 20000 in
set_option maxHeartbeats 16000000 in
theorem FnLight_walk (l : List Int) (A0 : Option Addr) (cc : Nat) (w : World) (hl : l.length ≤ maxLen) (hr : RB w A0 l) :
    Calls Tryz.prog 4 #[.slice A0 l.length cc] w fun e w' => e = .returned (.bool true) ∧ Ext w w' := by
  by_cases hb : (1048576 : Int) < l.length
  · go_enter Tryz.func4, Tryz.ntmps4
    go_wp2_with fail
    refine (big_any l A0 cc _ hl).mono ?_; rintro e w1 ⟨rfl, rfl⟩
    rw [decide_eq_true (by omega)]
    go_wp2_with fail
    go_ret
    exact ⟨rfl, by repeat (first | exact kE | exact Ext.refl _ | apply Ext.alloc | apply Ext.drewN | apply Ext.drew | apply Ext.set0 | apply Ext.set1 | apply Ext.set2 | apply Ext.set3 | (refine Ext.setk ?_ (by omega) _) | (apply Ext.snoc; assumption))⟩
  · have HR := hide hr
    clear hr
    have hm : l.length ≤ 1048576 := by omega
    go_enter Tryz.func4, Tryz.ntmps4
    go_wp2_with fail
    refine (big_any l A0 cc _ hl).mono ?_; rintro e w1 ⟨rfl, rfl⟩
    rw [decide_eq_false (by omega)]
    go_wp2_with fail
    refine (DrawLightOf_any l A0 cc _ hm HR.out).mono ?_
    rintro e wD ⟨N, E, A, B, c, c', S, A3, c3, rfl, hN14, hE22, hS41, hWR, hR3, kE⟩
    have HWR := hide (fun (W : World) (hE : Ext wD W) => hWR.ext hE)
    have HR3 := hide (fun (W : World) (hE : Ext wD W) => Rds.ext hR3 hE)
    have HRB := hide (fun (W : World) (hE : Ext wD W) => HR.out.ext (kE.trans hE))
    clear hWR hR3 HR
    have HLI := hide (fun (W : World) (hE : Ext wD W) => LightOf_any N E S A B A3 c c' c3 W (HWR.out W hE) (by omega) (HR3.out W hE))
    have HSH := hide (fun (W : World) (hE : Ext wD W) => ShareOfLight_any N E S A B A3 c c' c3 W (HWR.out W hE) (by omega) (HR3.out W hE))
    have HBR := hide (fun (W : World) (hE : Ext wD W) => BrightestFace_any N E S A B A3 c c' c3 W (HWR.out W hE) (by omega) (HR3.out W hE))
    have HFA := hide (fun (W : World) (hE : Ext wD W) => (sFacesOf_any N E A B c c' W (HWR.out W hE)).mono (R' := fun e w' => ∃ A2 c2, e = .returned (.slice A2 (fcs N E).length c2) ∧ Ext W w') (by rintro e w' ⟨A2, c2, h1, _, _, h2⟩; exact ⟨A2, c2, h1, h2⟩))
    have HIW := hide (fun (W : World) (hE : Ext wD W) => sIsWhole_any N E A B c c' W (HWR.out W hE))
    have HXL := hide (fun (X : List P3) (Ax : Option Addr) (cx : Nat) (W : World) (hE : Ext wD W) (hX : X.length ≤ 1048576) (hR : R3 W Ax X) => LightOf_any N E X A B Ax c c' cx W (HWR.out W hE) hX hR)
    have HXS := hide (fun (X : List P3) (Ax : Option Addr) (cx : Nat) (W : World) (hE : Ext wD W) (hX : X.length ≤ 1048576) (hR : R3 W Ax X) => ShareOfLight_any N E X A B Ax c c' cx W (HWR.out W hE) hX hR)
    have HOU := hide (fun (W : World) (hE : Ext wD W) => sOuterFace_any N E A B c c' W (HWR.out W hE))
    have HAR := hide (fun (f : Int) (W : World) (hE : Ext wD W) => sAreaOf_any N E A B c c' f W (HWR.out W hE))
    have HLB := hide (fun h => light_bad (N := N) (E := E) (S := S) h)
    have HLA := hide (fun (h : litOk N E S = true) (f : Nat) (hf : f < S.length) => light_adds h hf)
    have HLS := hide (fun (h : litOk N E S = true) (f : Nat) => lit_set h (f := f))
    have HSI := hide (fun (h : litOk N E S = true) => share_in h)
    have HSS := hide (fun (h : litOk N E S = true) (f : Nat) (hf : f < S.length) => share_set h hf)
    have HBI := hide (fun (h : litOk N E S = true) (hn : 1 < (fcs N E).length) => bright_is h hn)
    have HLO := hide (litOk_iff (N := N) (E := E) (S := S))
    have hlf := light_facts N E S
    have HON := hide (show wholeB N E = true → ∃ o : Nat, outerI N E = (o : Int) ∧ o < (fcs N E).length from fun h => by obtain ⟨k0, hk, ho, _⟩ := outer_whole h; exact ⟨k0, ho, hk⟩)
    have HNZ := hide (fun (h : wholeB N E = true) => (fcs_facts h).1)
    have hn40 := fcs_len (N := N) (E := E)
    obtain ⟨lr, hlr⟩ : ∃ x, (lightV N E S).1 = x := ⟨_, rfl⟩
    obtain ⟨lg, hlg⟩ : ∃ x, (lightV N E S).2.1 = x := ⟨_, rfl⟩
    obtain ⟨lb, hlb⟩ : ∃ x, (lightV N E S).2.2 = x := ⟨_, rfl⟩
    obtain ⟨sh, hsh⟩ : ∃ x, shareI N E S = x := ⟨_, rfl⟩
    obtain ⟨br, hbr⟩ : ∃ x, brightV N E S = x := ⟨_, rfl⟩
    have HLV := hide (show lightV N E S = (lr, lg, lb) from by rw [← hlr, ← hlg, ← hlb])
    rw [hlr, hlg, hlb] at HLI hlf
    rw [hsh] at HSH
    rw [hbr] at HBR
    have HEQ := hide (And.intro hsh hbr)
    obtain ⟨n, hn⟩ : ∃ n, (fcs N E).length = n := ⟨_, rfl⟩
    have HN := hide hn
    rw [hn] at HFA hn40
    have hlr' := hlf.1
    have hlg' := hlf.2.1
    have hlb' := hlf.2.2.1
    clear hlr hlg hlb hsh hbr hn hlf hb
    
    go_upto_region 4 with fail
    have HX := hide ((Ext.refl wD).alloc (Obj.cells #[Value.slice A N.length c, Value.slice B E.length c'] 27))
    obtain ⟨w2, hw⟩ : ∃ w1, w1 = wD.alloc (Obj.cells #[Value.slice A N.length c, Value.slice B E.length c'] 27) := ⟨_, rfl⟩; rw [← hw]; have kT : Tr [(wD.heap.size, [.slice A N.length c, .slice B E.length c'])] w w2 := (by rw [hw]; exact ⟨by (first | (simp [Bx, CellsAt, go_sem, *]; done) | (simp [Bx, CellsAt, go_sem, *]; omega)), by (repeat (first | exact kE | exact Ext.refl _ | apply Ext.alloc | apply Ext.drewN | apply Ext.drew | apply Ext.set0 | apply Ext.set1 | apply Ext.set2 | apply Ext.set3 | (refine Ext.setk ?_ (by omega) _) | (apply Ext.snoc; assumption)))⟩); have HT := hide kT; clear kT; have kT := HT.out; simp only [Tr, Bx, CellsAt, Nat.reduceAdd, Nat.zero_add, and_true] at kT; obtain ⟨⟨kz0, kf0, kc0_0, kc0_1⟩, kE⟩ := kT
    rw [← hw] at HX
    clear hw
    go_wp2_with fail
    refine (HLI.out _ HX.out).mono ?_; rintro e w3 ⟨rfl, hb⟩; have HT := hide (HT.out.ext hb); have Hw3 := hide hb; clear hb; clear kz0 kf0 kc0_0 kc0_1 kE; have kT := HT.out; simp only [Tr, Bx, CellsAt, Nat.reduceAdd, Nat.zero_add, and_true] at kT; obtain ⟨⟨kz0, kf0, kc0_0, kc0_1⟩, kE⟩ := kT
    have HX := hide (HX.out.trans Hw3.out)
    go_wp2_with fail
    refine (HSH.out _ HX.out).mono ?_; rintro e w4 ⟨rfl, hb⟩; have HT := hide (HT.out.ext hb); have Hw4 := hide hb; clear hb; clear kz0 kf0 kc0_0 kc0_1 kE; have kT := HT.out; simp only [Tr, Bx, CellsAt, Nat.reduceAdd, Nat.zero_add, and_true] at kT; obtain ⟨⟨kz0, kf0, kc0_0, kc0_1⟩, kE⟩ := kT
    have HX := hide (HX.out.trans Hw4.out)
    go_wp2_with fail
    refine (HBR.out _ HX.out).mono ?_; rintro e w5 ⟨rfl, hb⟩; have HT := hide (HT.out.ext hb); have Hw5 := hide hb; clear hb; clear kz0 kf0 kc0_0 kc0_1 kE; have kT := HT.out; simp only [Tr, Bx, CellsAt, Nat.reduceAdd, Nat.zero_add, and_true] at kT; obtain ⟨⟨kz0, kf0, kc0_0, kc0_1⟩, kE⟩ := kT
    have HX := hide (HX.out.trans Hw5.out)
    go_wp2_with fail
    refine (HFA.out _ HX.out).mono ?_; rintro e w6 ⟨A2, c2, rfl, hb⟩; have HT := hide (HT.out.ext hb); have Hw6 := hide hb; clear hb; clear kz0 kf0 kc0_0 kc0_1 kE; have kT := HT.out; simp only [Tr, Bx, CellsAt, Nat.reduceAdd, Nat.zero_add, and_true] at kT; obtain ⟨⟨kz0, kf0, kc0_0, kc0_1⟩, kE⟩ := kT
    have HX := hide (HX.out.trans Hw6.out)
    clear Hw3 Hw4 Hw5 Hw6 HLI HSH HBR HFA
    have HLT := hide (show litOk N E S = (wholeB N E && (S.length == n) && S.all stainP) from by unfold litOk; rw [HN.out, Bool.and_assoc])
    obtain ⟨wb, hwb⟩ : ∃ wb, wholeB N E = wb := ⟨_, rfl⟩
    have HWB := hide hwb
    rw [hwb] at HLT HIW
    clear hwb
    obtain ⟨g0, hg0⟩ : ∃ g0, (wb && (S.length == n)) = g0 := ⟨_, rfl⟩
    have HG0 := hide hg0
    rw [hg0] at HLT
    clear hg0
    go_upto_region 8 with fail
    go_cut [11] from 47 to 54 (fun x wx => x = .bool g0 ∧ Hid (Tr [(wD.heap.size, [.slice A N.length c, .slice B E.length c'])] w wx) ∧ Hid (Ext wD wx))
    case first =>
      go_wp2_with fail
      refine (HIW.out _ HX.out).mono ?_; rintro e w7 ⟨rfl, hb⟩; have HT := hide (HT.out.ext hb); have Hw7 := hide hb; clear hb; clear kz0 kf0 kc0_0 kc0_1 kE; have kT := HT.out; simp only [Tr, Bx, CellsAt, Nat.reduceAdd, Nat.zero_add, and_true] at kT; obtain ⟨⟨kz0, kf0, kc0_0, kc0_1⟩, kE⟩ := kT
      have HX := hide (HX.out.trans Hw7.out)
      cases wb with
      | false =>
        have h9 : g0 = false := by rw [← HG0.out]; rfl
        subst h9
        go_wp2_with fail
        go_meet
        exact ⟨rfl, HT, HX⟩
      | true =>
        by_cases hSn : S.length = n
        · have h9 : g0 = true := by rw [← HG0.out, hSn]; simp
          subst h9
          have hSz : ((S.length : Int) == (n : Int)) = true := by rw [beq_iff_eq]; omega
          clear hSn
          go_wp2_with fail
          go_meet
          exact ⟨by simp [hSz], HT, HX⟩
        · have h9 : g0 = false := by rw [← HG0.out]; simp [hSn]
          subst h9
          have hSz : ((S.length : Int) == (n : Int)) = false := by rw [beq_eq_false_iff_ne]; omega
          clear hSn
          go_wp2_with fail
          go_meet
          exact ⟨by simp [hSz], HT, HX⟩
    case rest =>
      clear HT HX HIW
      obtain ⟨rfl, HT, HX⟩ := hcut
      have HALL0 := hide (show ((S.take 0).all stainP) = true from by simp)
      go_wp2_with fail
      go_loopw [11, 12] (fun v i wr => ∃ k : Nat, k ≤ S.length ∧ i = .int .i64 k ∧ v = .bool (g0 && (S.take k).all stainP) ∧ Hid (Tr [(wD.heap.size, [.slice A N.length c, .slice B E.length c'])] w wr) ∧ Hid (Ext wD wr)) (fun _ i _ => S.length - (intOf i).toNat)
      case atStart => exact ⟨0, Nat.zero_le _, rfl, by rw [HALL0.out, Bool.and_true], HT, HX⟩
      case round =>
        clear HT HX HALL0
        obtain ⟨k, hk, rfl, rfl, HT, HX⟩ := hrel
        by_cases hlt : k < S.length
        · have hlz : (k : Int) < (S.length : Int) := by omega
          have HTS := hide (all_take_succ S stainP k hlt)
          cases hg : (g0 && (S.take k).all stainP) with
          | false =>
            have HNX := hide (show (g0 && (S.take (k + 1)).all stainP) = false from by rw [HTS.out, ← Bool.and_assoc, hg]; rfl)
            clear hg
            clear kz0 kf0 kc0_0 kc0_1 kE
            have kT := HT.out; simp only [Tr, Bx, CellsAt, Nat.reduceAdd, Nat.zero_add, and_true] at kT; obtain ⟨⟨kz0, kf0, kc0_0, kc0_1⟩, kE⟩ := kT
            go_wp2_with fail
            go_roundw
            case rel => exact ⟨k + 1, by omega, by go_num, by rw [HNX.out], HT, HX⟩
            case measure => simp [intOf]; omega
          | true =>
            obtain ⟨bS, oS, rfl, hbS, d0, d1, d2⟩ := R3.at_ (HR3.out _ HX.out) hlt
            have HNX := hide (show (g0 && (S.take (k + 1)).all stainP) = stainOk S[k].1 S[k].2.1 S[k].2.2 from by rw [HTS.out, ← Bool.and_assoc, hg]; rfl)
            obtain ⟨s0, hs0⟩ : ∃ x, S[k].1 = x := ⟨_, rfl⟩
            obtain ⟨s1, hs1⟩ : ∃ x, S[k].2.1 = x := ⟨_, rfl⟩
            obtain ⟨s2, hs2⟩ : ∃ x, S[k].2.2 = x := ⟨_, rfl⟩
            rw [hs0] at d0 HNX
            rw [hs1] at d1 HNX
            rw [hs2] at d2 HNX
            obtain ⟨q, hq⟩ : ∃ q, stainOk s0 s1 s2 = q := ⟨_, rfl⟩
            have HC := hide (sStainOk_any s0 s1 s2 wr)
            rw [hq] at HC HNX
            clear hg hs0 hs1 hs2 hq
            
            have kT := HT.out; simp only [Tr, Bx, CellsAt, Nat.reduceAdd, Nat.zero_add, and_true] at kT; obtain ⟨⟨kz0, kf0, kc0_0, kc0_1⟩, kE⟩ := kT
            go_wp2_with fail
            refine (HC.out).mono ?_; rintro e w9 ⟨rfl, hb⟩; have HT := hide (HT.out.ext hb); have Hw9 := hide hb; clear hb; clear kz0 kf0 kc0_0 kc0_1 kE; have kT := HT.out; simp only [Tr, Bx, CellsAt, Nat.reduceAdd, Nat.zero_add, and_true] at kT; obtain ⟨⟨kz0, kf0, kc0_0, kc0_1⟩, kE⟩ := kT
            have HX := hide (HX.out.trans Hw9.out)
            go_wp2_with fail
            go_roundw
            case rel => exact ⟨k + 1, by omega, by go_num, by rw [HNX.out], HT, HX⟩
            case measure => simp [intOf]; omega
        · obtain rfl : k = S.length := by omega
          rw [List.take_length]
          rw [← HLT.out]
          go_wp2_with fail
          refine (color_two wr).mono ?_
          rintro e w8 ⟨q8, c8, rfl, hq8, hc8, hd8, hz8, hb8⟩
          have HX := hide (HX.out.trans hb8)
          have HT' := hide (HT.out.ext hb8)
          clear hb8
          have a0 := hc8 0 _ rfl
          have a1 := hc8 1 _ rfl
          have a2 := hc8 2 _ rfl
          have a3 := hc8 3 _ rfl
          have a4 := hc8 4 _ rfl
          have a5 := hc8 5 _ rfl
          have b0 := hd8 0 _ rfl
          have b1 := hd8 1 _ rfl
          have b2 := hd8 2 _ rfl
          have b3 := hd8 3 _ rfl
          have b4 := hd8 4 _ rfl
          have b5 := hd8 5 _ rfl
          have HBC := hide (show ∀ W, Ext w8 W → W.cell? ⟨wr.heap.size, 0, none⟩ = some (.int .i64 1000) ∧ W.cell? ⟨wr.heap.size, 1, none⟩ = some (.int .i64 1000) ∧ W.cell? ⟨wr.heap.size, 2, none⟩ = some (.int .i64 1000) from fun W h => ⟨(h.facts.1 _ _ hz8).trans b0, (h.facts.1 _ _ hz8).trans b1, (h.facts.1 _ _ hz8).trans b2⟩)
          clear hc8 hd8 HT
          have HT := HT'
          clear HT'
          go_upto_region 15 with fail
          have qa0 := ExtBy.cell (W := w8) hq8 a0
          have qa1 := ExtBy.cell (W := w8) hq8 a1
          have qa2 := ExtBy.cell (W := w8) hq8 a2
          have qa3 := ExtBy.cell (W := w8) hq8 a3
          have qa4 := ExtBy.cell (W := w8) hq8 a4
          have qa5 := ExtBy.cell (W := w8) hq8 a5
          have qb0 := ExtBy.cell (W := w8) hz8 b0
          have qb1 := ExtBy.cell (W := w8) hz8 b1
          have qb2 := ExtBy.cell (W := w8) hz8 b2
          have qb3 := ExtBy.cell (W := w8) hz8 b3
          have qb4 := ExtBy.cell (W := w8) hz8 b4
          have qb5 := ExtBy.cell (W := w8) hz8 b5
          
          refine wp_region_quietE (by kernel_rfl) (by kernel_rfl) ?_; (repeat (refine WQ.step (fun K hK => ?_); have HK := hide hK; clear hK; go_simp; refine HK.out _ ?_; clear HK K)); refine WQ.done ?_; intro w9 hw'; obtain ⟨⟨_, hw9⟩, hw''⟩ := hw'; subst hw''
          have HX := hide (HX.out.trans hw9)
          have HE9 := hide hw9
          have HT' := hide (HT.out.ext hw9)
          clear HT hw9 qa0 qa1 qa2 qa3 qa4 qa5 qb0 qb1 qb2 qb3 qb4 qb5 a0 a1 a2 a3 a4 a5 b0 b1 b2 b3 b4 b5
          have HT := HT'
          clear HT'
          cases hlit : litOk N E S with
          | false =>
            obtain ⟨z1, z2, z3⟩ := HLB.out hlit
            rw [HEQ.out.1] at z2
            rw [HEQ.out.2] at z3
            have z4 := HLV.out.symm.trans z1
            injection z4 with z4 z5
            injection z5 with z5 z6
            subst z2 z3 z4 z5 z6
            clear z1 hlit
            go_wp2_with fail
            go_ret
            exact ⟨rfl, HT.out.2⟩
          | true =>
            obtain ⟨hwh, hSn, hall⟩ := HLO.out.1 hlit
            rw [HN.out] at hSn
            obtain ⟨o, ho, hon⟩ := HON.out hwh
            have hn0 := HNZ.out hwh
            rw [HN.out] at hon hn0
            have HOU2 := hide (show ∀ (W : World), Ext wD W → Calls Tryz.prog 25 #[.agg #[.slice A N.length c, .slice B E.length c']] W fun e w' => e = .returned (.int .i64 (o : Int)) ∧ Ext W w' from fun W hE => by rw [← ho]; exact HOU.out W hE)
            have HALL := hide hall
            have HLIT := hide hlit
            have HO := hide ho
            have HSN := hide hSn
            have HWH := hide hwh
            rw [hSn] at hS41 ⊢
            clear hlit hwh hall ho hSn HOU HLB HLO HON HNZ HLT HG0 HWB
            
            have kT := HT.out; simp only [Tr, Bx, CellsAt, Nat.reduceAdd, Nat.zero_add, and_true] at kT; obtain ⟨⟨kz0, kf0, kc0_0, kc0_1⟩, kE⟩ := kT
            go_upto_region 19 with fail
            go_cut [16] from 69 to 124 (fun x wx => x = .int .i64 (o : Int) ∧ Hid (Tr [(wD.heap.size, [.slice A N.length c, .slice B E.length c'])] w wx) ∧ Hid (Ext wD wx) ∧ Hid (Ext w9 wx))
            case first =>
              go_wp2_with fail
              refine (HOU2.out _ HX.out).mono ?_; rintro e w10 ⟨rfl, hb⟩; have HT := hide (HT.out.ext hb); have Hw10 := hide hb; clear hb; clear kz0 kf0 kc0_0 kc0_1 kE; have kT := HT.out; simp only [Tr, Bx, CellsAt, Nat.reduceAdd, Nat.zero_add, and_true] at kT; obtain ⟨⟨kz0, kf0, kc0_0, kc0_1⟩, kE⟩ := kT
              have HX := hide (HX.out.trans Hw10.out)
              go_wp2_with fail
              go_meet
              exact ⟨rfl, HT, HX, Hw10⟩
            clear HT HX
            obtain ⟨rfl, HT, HX, Hw10⟩ := hcut
            rename World => w10
            clear kz0 kf0 kc0_0 kc0_1 kE
            have kT := HT.out; simp only [Tr, Bx, CellsAt, Nat.reduceAdd, Nat.zero_add, and_true] at kT; obtain ⟨⟨kz0, kf0, kc0_0, kc0_1⟩, kE⟩ := kT
            go_wp2_with fail
            refine (at_any l A0 cc 0 _ hm (by omega) (HRB.out _ HX.out)).mono ?_; rintro e w11 ⟨x, rfl, hx0, hx1, rfl⟩
            obtain ⟨f, hmod, hfn⟩ : ∃ f : Nat, x % (n : Int) = (f : Int) ∧ f < n := ⟨(x % (n : Int)).toNat, by have := Int.emod_nonneg x (b := (n : Int)) (by omega); omega, by have h1 := Int.emod_nonneg x (b := (n : Int)) (by omega); have h2 := Int.emod_lt_of_pos x (b := (n : Int)) (by omega); omega⟩
            have htm : Int.tmod x (n : Int) = (f : Int) := by rw [Int.tmod_eq_emod_of_nonneg hx0]; exact hmod
            have hnz : (0 : Int) < (n : Int) := by omega
            have hnne : ¬ (n : Int) = 0 := by omega
            obtain ⟨p0, p1, p2⟩ := HBC.out _ (HE9.out.trans Hw10.out)
            have hp8 : wr.heap.size < w10.heap.size := Nat.lt_of_lt_of_le hz8 (HE9.out.trans Hw10.out).size
            go_wp2_with fail
            have hfS : f < S.length := by rw [HSN.out]; exact hfn
            obtain ⟨bS, oS, rfl, hbS, _, _, _⟩ := R3.at_ (HR3.out _ HX.out) hfS
            have HSF := hide (show ∀ (i : Nat) (hi : i < S.length) (W : World), Ext wD W → bS < W.heap.size ∧ W.cell? ⟨bS, oS + i * 3, none⟩ = some (.int .i64 S[i].1) ∧ W.cell? ⟨bS, oS + i * 3 + 1, none⟩ = some (.int .i64 S[i].2.1) ∧ W.cell? ⟨bS, oS + i * 3 + 2, none⟩ = some (.int .i64 S[i].2.2) from fun i hi W hE => by
              obtain ⟨b', o', e, h1, h2, h3, h4⟩ := R3.at_ (HR3.out W hE) hi
              injection e with e
              injection e with e1 e2
              subst e1 e2
              exact ⟨h1, h2, h3, h4⟩)
            refine (with_is (f := f) (n := n) (cp := c3) hfS HSN.out (by rw [HSN.out]; omega) (HR3.out _ HX.out)).mono ?_
            rintro e w12 ⟨Ax, cx, rfl, hRx, hb12⟩
            have HRX := hide (show ∀ (W : World), Ext w12 W → R3 W Ax (S.set f (1000, 1000, 1000)) from fun W hE => Rds.ext hRx hE)
            have HX := hide (HX.out.trans hb12)
            have HT' := hide (HT.out.ext hb12)
            clear p0 p1 p2 hp8 hmod htm hnz hnne HBC HE9 Hw10 hRx hb12
            clear kz0 kf0 kc0_0 kc0_1 kE
            clear HT
            have HT := HT'
            clear HT'
            have kT := HT.out; simp only [Tr, Bx, CellsAt, Nat.reduceAdd, Nat.zero_add, and_true] at kT; obtain ⟨⟨kz0, kf0, kc0_0, kc0_1⟩, kE⟩ := kT
            obtain ⟨a1, a2, a3⟩ := HLA.out HLIT.out f hfS
            have hss := HSS.out HLIT.out f hfS
            have hlx := light_facts N E (S.set f (1000, 1000, 1000))
            obtain ⟨X, hX⟩ : ∃ X, S.set f (1000, 1000, 1000) = X := ⟨_, rfl⟩
            have hXl : X.length = n := by rw [← hX, List.length_set, HSN.out]
            rw [hX] at HRX a1 a2 a3 hss hlx
            clear hX
            obtain ⟨lu, hlu⟩ : ∃ x, (lightV N E X).1 = x := ⟨_, rfl⟩
            obtain ⟨lv, hlv⟩ : ∃ x, (lightV N E X).2.1 = x := ⟨_, rfl⟩
            obtain ⟨ls, hls⟩ : ∃ x, (lightV N E X).2.2 = x := ⟨_, rfl⟩
            obtain ⟨sx, hsx⟩ : ∃ x, shareI N E X = x := ⟨_, rfl⟩
            have HLV2 := hide (show lightV N E X = (lu, lv, ls) from by rw [← hlu, ← hlv, ← hls])
            have HSX2 := hide hsx
            rw [hlu, HLV.out] at a1
            rw [hlv, HLV.out] at a2
            rw [hls, HLV.out] at a3
            rw [hlu, hlv, hls] at hlx
            rw [hsx, HEQ.out.1] at hss
            have hsi := HSI.out HLIT.out
            rw [HEQ.out.1] at hsi
            have hx1 := hlx.1
            have hx2 := hlx.2.1
            have hx3 := hlx.2.2.1
            clear hlu hlv hls hsx hlx
            have HXLC := hide (show ∀ (W : World), Ext w12 W → Ext wD W → Calls Tryz.prog 19 #[.agg #[.slice A N.length c, .slice B E.length c'], .slice Ax n cx] W fun e w' => e = .returned (.tuple #[.int .i64 lu, .int .i64 lv, .int .i64 ls]) ∧ Ext W w' from fun W h1 h2 => light_of (HWR.out W h2) hXl (by omega) (HRX.out W h1) HLV2.out)
            have HXSC := hide (show ∀ (W : World), Ext w12 W → Ext wD W → Calls Tryz.prog 20 #[.agg #[.slice A N.length c, .slice B E.length c'], .slice Ax n cx] W fun e w' => e = .returned (.int .i64 sx) ∧ Ext W w' from fun W h1 h2 => share_of (HWR.out W h2) hXl (by omega) (HRX.out W h1) HSX2.out)
            clear HXL HXS HRX HLV2 HSX2 hXl HLA HLS HSS HSI
            go_wp2_with fail
            refine (HXLC.out _ (Ext.refl _) HX.out).mono ?_; rintro e w13 ⟨rfl, hb⟩; have HT := hide (HT.out.ext hb); have Hw13 := hide hb; clear hb; clear kz0 kf0 kc0_0 kc0_1 kE; have kT := HT.out; simp only [Tr, Bx, CellsAt, Nat.reduceAdd, Nat.zero_add, and_true] at kT; obtain ⟨⟨kz0, kf0, kc0_0, kc0_1⟩, kE⟩ := kT
            have HX := hide (HX.out.trans Hw13.out)
            go_wp2_with fail
            have har := area_range (N := N) (E := E) (k := f) (by rw [HN.out]; exact hfn)
            have hai : arI N E f = if (f : Int) = (o : Int) then 0 else areaAt N E (f : Nat) := by unfold arI; rw [HO.out]
            rw [hai] at a1 a2 a3
            clear hai
            have HARF := hide (HAR.out (f : Int))
            obtain ⟨af, haf⟩ : ∃ x, areaAt N E (f : Nat) = x := ⟨_, rfl⟩
            have HAF := hide haf
            rw [haf] at har HARF a1 a2 a3
            clear haf
            refine (HARF.out _ HX.out).mono ?_; rintro e w14 ⟨rfl, hb⟩; have HT := hide (HT.out.ext hb); have Hw14 := hide hb; clear hb; clear kz0 kf0 kc0_0 kc0_1 kE; have kT := HT.out; simp only [Tr, Bx, CellsAt, Nat.reduceAdd, Nat.zero_add, and_true] at kT; obtain ⟨⟨kz0, kf0, kc0_0, kc0_1⟩, kE⟩ := kT
            have HX := hide (HX.out.trans Hw14.out)
            have HE12 := hide (Hw13.out.trans Hw14.out)
            clear Hw13 Hw14
            obtain ⟨hbS', d0, d1, d2⟩ := HSF.out f hfS _ HX.out
            have hst := stain_at HALL.out hfS
            have eS : S.getD f (0, 0, 0) = S[f] := by simp [hfS]
            rw [eS] at a1 a2 a3
            obtain ⟨R, hR⟩ : ∃ x, S[f].1 = x := ⟨_, rfl⟩
            obtain ⟨G, hG⟩ : ∃ x, S[f].2.1 = x := ⟨_, rfl⟩
            obtain ⟨Bl, hBl⟩ : ∃ x, S[f].2.2 = x := ⟨_, rfl⟩
            have HRGB := hide (And.intro hR (And.intro hG hBl))
            rw [hR] at d0 a1 hst
            rw [hG] at d1 a2 hst
            rw [hBl] at d2 a3 hst
            clear hR hG hBl eS
            have HRGB2 := hide hst
            obtain ⟨ax, hax⟩ : ∃ x, (if (f : Int) = (o : Int) then (0 : Int) else af) = x := ⟨_, rfl⟩
            have HAX := hide hax
            have hxr : 0 ≤ ax ∧ ax ≤ 16000 := by rw [← hax]; split <;> omega
            rw [hax] at a1 a2 a3
            clear hax
            go_upto_if 158 with fail
            go_cut [23] from 158 to 158 (fun x wx => x = .int .i64 ax ∧ wx = w14)
            case first =>
              by_cases hfo : f = o
              · subst hfo
                have h9 : ax = 0 := by rw [← HAX.out, if_pos rfl]
                subst h9
                go_wp2_with fail
                go_meet
                exact ⟨rfl, rfl⟩
              · have e1 : ((f : Int) == (o : Int)) = false := by rw [beq_eq_false_iff_ne]; omega
                have e2 : ¬ (f : Int) = (o : Int) := by omega
                have h9 : ax = af := by rw [← HAX.out, if_neg e2]
                subst h9
                go_wp2_with fail
                go_meet
                exact ⟨rfl, rfl⟩
            obtain ⟨rfl, hwx⟩ := hcut
            rw [hwx]
            clear hwx
            have p1 := prod_in hxr.1 hxr.2 (s := 1000 - R) (m := 1000) (by omega) (by omega) (by omega)
            have p2 := prod_in hxr.1 hxr.2 (s := 1000 - G) (m := 1000) (by omega) (by omega) (by omega)
            have p3 := prod_in hxr.1 hxr.2 (s := 1000 - Bl) (m := 1000) (by omega) (by omega) (by omega)
            obtain ⟨D1, hD1⟩ : ∃ D, ax * (1000 - R) = D := ⟨_, rfl⟩
            obtain ⟨D2, hD2⟩ : ∃ D, ax * (1000 - G) = D := ⟨_, rfl⟩
            obtain ⟨D3, hD3⟩ : ∃ D, ax * (1000 - Bl) = D := ⟨_, rfl⟩
            rw [hD1] at a1 p1
            rw [hD2] at a2 p2
            rw [hD3] at a3 p3
            have w1 : IntKind.i64.wrap D1 = D1 := by rw [IntKind.wrap_i64]; omega
            have w2' : IntKind.i64.wrap D2 = D2 := by rw [IntKind.wrap_i64]; omega
            have w3' : IntKind.i64.wrap D3 = D3 := by rw [IntKind.wrap_i64]; omega
            have t1 : ¬ sh < 0 := by omega
            have t2 : ¬ (1000 : Int) < sh := by omega
            have t3 : ¬ sx < sh := by omega
            
            go_upto_region 28 with fail
            go_cut [213] from 159 to 213 (fun x wx => x = .bool false ∧ Hid (Tr [(wD.heap.size, [.slice A N.length c, .slice B E.length c'])] w wx) ∧ Hid (Ext wD wx))
            case first =>
              go_wp2_with fail
              refine (HXSC.out _ HE12.out HX.out).mono ?_; rintro e w15 ⟨rfl, hb⟩; have HT := hide (HT.out.ext hb); have Hw15 := hide hb; clear hb; clear kz0 kf0 kc0_0 kc0_1 kE; have kT := HT.out; simp only [Tr, Bx, CellsAt, Nat.reduceAdd, Nat.zero_add, and_true] at kT; obtain ⟨⟨kz0, kf0, kc0_0, kc0_1⟩, kE⟩ := kT
              have HX := hide (HX.out.trans Hw15.out)
              go_wp2_with fail
              go_meet
              exact ⟨by first | rfl | rw [decide_eq_false (show ¬ sx < sh by omega)], HT, HX⟩
            clear HT HX
            obtain ⟨rfl, HT, HX⟩ := hcut
            rename World => w15
            
            clear kz0 kf0 kc0_0 kc0_1 kE
            have kT := HT.out; simp only [Tr, Bx, CellsAt, Nat.reduceAdd, Nat.zero_add, and_true] at kT; obtain ⟨⟨kz0, kf0, kc0_0, kc0_1⟩, kE⟩ := kT
            have HRG := HRGB.out
            clear t1 t2 d0 d1 d2
            by_cases hn1 : n = 1
            · have g1 : ¬ (1 : Int) < (n : Int) := by omega
              have g2 : ((n : Int) == 1) = true := by rw [beq_iff_eq]; omega
              have g3 : decide ((n : Int) = 1) = true := by rw [decide_eq_true_eq]; omega
              clear hn1
              go_upto_region 32 with fail
              
              have kq0_0 := ExtBy.cell (W := w15) kz0 kc0_0; have kq0_1 := ExtBy.cell (W := w15) kz0 kc0_1; refine wp_region_quietE (by kernel_rfl) (by kernel_rfl) ?_; (repeat (refine WQ.step (fun K hK => ?_); have HK := hide hK; clear hK; go_simp; refine HK.out _ ?_; clear HK K)); refine WQ.done ?_; intro w16 hw'; obtain ⟨⟨_, hw16⟩, hw''⟩ := hw'; subst hw''; clear kq0_0 kq0_1; have HT := hide (HT.out.ext hw16); have Hw16 := hide hw16; clear hw16 kz0 kf0 kc0_0 kc0_1 kE; have kT := HT.out; simp only [Tr, Bx, CellsAt, Nat.reduceAdd, Nat.zero_add, and_true] at kT; obtain ⟨⟨kz0, kf0, kc0_0, kc0_1⟩, kE⟩ := kT
              go_wp2_with fail
              go_ret
              exact ⟨rfl, kE⟩
            · obtain ⟨b, hb1, hb2, hb3, hb4⟩ := HBI.out HLIT.out (by rw [HN.out]; omega)
              rw [HEQ.out.2] at hb1
              rw [HN.out] at hb2
              rw [HO.out] at hb3
              have hlum := hb4 f (by rw [HN.out]; exact hfn)
              rw [HO.out] at hlum
              subst hb1
              have hbS2 : b < S.length := by rw [HSN.out]; exact hb2
              have hlf1 : lumI N E S f = af * (R + G + Bl) := by unfold lumI; rw [HAF.out, show S.getD f (0, 0, 0) = S[f] from by simp [hfS], HRG.1, HRG.2.1, HRG.2.2]
              obtain ⟨hbS3, f0, f1, f2⟩ := HSF.out f hfS _ HX.out
              obtain ⟨_, k0, k1, k2⟩ := HSF.out b hbS2 _ HX.out
              rw [HRG.1] at f0
              rw [HRG.2.1] at f1
              rw [HRG.2.2] at f2
              have hsb := stain_at HALL.out hbS2
              have har2 := area_range (N := N) (E := E) (k := b) (by rw [HN.out]; exact hb2)
              have HARB := hide (HAR.out (b : Int))
              have hlb1 : lumI N E S b = areaAt N E (b : Nat) * (S[b].1 + S[b].2.1 + S[b].2.2) := by unfold lumI; rw [show S.getD b (0, 0, 0) = S[b] from by simp [hbS2]]
              obtain ⟨ab, hab⟩ : ∃ x, areaAt N E (b : Nat) = x := ⟨_, rfl⟩
              obtain ⟨R', hR'⟩ : ∃ x, S[b].1 = x := ⟨_, rfl⟩
              obtain ⟨G', hG'⟩ : ∃ x, S[b].2.1 = x := ⟨_, rfl⟩
              obtain ⟨B', hB'⟩ : ∃ x, S[b].2.2 = x := ⟨_, rfl⟩
              rw [hab] at HARB har2 hlb1
              rw [hR'] at k0 hsb hlb1
              rw [hG'] at k1 hsb hlb1
              rw [hB'] at k2 hsb hlb1
              have q1 := prod_in har.1 har.2 (s := R + G + Bl) (m := 3000) (by omega) (by omega) (by omega)
              have q2 := prod_in har2.1 har2.2 (s := R' + G' + B') (m := 3000) (by omega) (by omega) (by omega)
              have v1 : IntKind.i64.wrap (R + G) = R + G := by rw [IntKind.wrap_i64]; omega
              have v2 : IntKind.i64.wrap (R + G + Bl) = R + G + Bl := by rw [IntKind.wrap_i64]; omega
              have v3 : IntKind.i64.wrap (R' + G') = R' + G' := by rw [IntKind.wrap_i64]; omega
              have v4 : IntKind.i64.wrap (R' + G' + B') = R' + G' + B' := by rw [IntKind.wrap_i64]; omega
              obtain ⟨P1, hP1⟩ : ∃ D, af * (R + G + Bl) = D := ⟨_, rfl⟩
              obtain ⟨P2, hP2⟩ : ∃ D, ab * (R' + G' + B') = D := ⟨_, rfl⟩
              rw [hP1] at q1 hlf1
              rw [hP2] at q2 hlb1
              rw [hlf1, hlb1] at hlum
              have v5 : IntKind.i64.wrap P1 = P1 := by rw [IntKind.wrap_i64]; omega
              have v6 : IntKind.i64.wrap P2 = P2 := by rw [IntKind.wrap_i64]; omega
              have g1 : (1 : Int) < (n : Int) := by omega
              have g2 : ((n : Int) == 1) = false := by rw [beq_eq_false_iff_ne]; omega
              have g4 : ¬ (b : Int) < 0 := by omega
              have g5 : ¬ (n : Int) ≤ (b : Int) := by omega
              have g6 := beq_eq_false_iff_ne.2 hb3
              have g7 : (b : Int) < (n : Int) := by omega
              have g8 : (f : Int) < (n : Int) := by omega
              have g9 : (0 : Int) ≤ (b : Int) := by omega
              have g10 : (0 : Int) ≤ (f : Int) := by omega
              clear hlf1 hlb1 hab hR' hG' hB' hb4 hn1 hsb hst
              go_upto_region 32 with fail
              clear g1 g4 g5 g6
              have g3 : decide ((n : Int) = 1) = false := by rw [decide_eq_false_iff_not]; intro h; rw [h] at g2; cases g2
              have m0 := ExtBy.cell (W := w15) hbS3 f0
              have m1 := ExtBy.cell (W := w15) hbS3 f1
              have m2 := ExtBy.cell (W := w15) hbS3 f2
              have m3 := ExtBy.cell (W := w15) hbS3 k0
              have m4 := ExtBy.cell (W := w15) hbS3 k1
              have m5 := ExtBy.cell (W := w15) hbS3 k2
              by_cases hle : P1 ≤ P2
              · have l1 : decide (P1 ≤ P2) = true := by rw [decide_eq_true_eq]; exact hle
                clear hle hlum
                
                have kq0_0 := ExtBy.cell (W := w15) kz0 kc0_0; have kq0_1 := ExtBy.cell (W := w15) kz0 kc0_1; refine wp_region_quietE (by kernel_rfl) (by kernel_rfl) ?_; (repeat (refine WQ.step (fun K hK => ?_); have HK := hide hK; clear hK; go_simp; refine HK.out _ ?_; clear HK K)); (refine WQ.step (fun K hK => ?_); have HK := hide hK; clear hK; go_simp; apply Exists.intro; refine ⟨fun _ => ?_, HK.out _ ?_⟩; (go_at_call 28; refine extby_of (HARF.out _ (HX.out.trans (ExtBy.h _)))); clear HK K); (repeat (refine WQ.step (fun K hK => ?_); have HK := hide hK; clear hK; go_simp; refine HK.out _ ?_; clear HK K)); (refine WQ.step (fun K hK => ?_); have HK := hide hK; clear hK; go_simp; apply Exists.intro; refine ⟨fun _ => ?_, HK.out _ ?_⟩; (go_at_call 28; refine extby_of (HARB.out _ (HX.out.trans (ExtBy.h _)))); clear HK K); (repeat (refine WQ.step (fun K hK => ?_); have HK := hide hK; clear hK; go_simp; refine HK.out _ ?_; clear HK K)); refine WQ.done ?_; intro w16 hw'; obtain ⟨⟨_, hw16⟩, hw''⟩ := hw'; subst hw''; clear kq0_0 kq0_1; have HT := hide (HT.out.ext hw16); have Hw16 := hide hw16; clear hw16 kz0 kf0 kc0_0 kc0_1 kE; have kT := HT.out; simp only [Tr, Bx, CellsAt, Nat.reduceAdd, Nat.zero_add, and_true] at kT; obtain ⟨⟨kz0, kf0, kc0_0, kc0_1⟩, kE⟩ := kT
                go_wp2_with fail
                go_ret
                exact ⟨rfl, kE⟩
              · have l1 : decide (P1 ≤ P2) = false := by rw [decide_eq_false_iff_not]; exact hle
                have l2 : ((f : Int) == (o : Int)) = true := by
                  rw [beq_iff_eq]
                  exact Classical.byContradiction fun h => hle (hlum h)
                have l3 : decide ((f : Int) = (o : Int)) = true := by rw [beq_iff_eq] at l2; exact decide_eq_true l2
                clear hle hlum
                
                have kq0_0 := ExtBy.cell (W := w15) kz0 kc0_0; have kq0_1 := ExtBy.cell (W := w15) kz0 kc0_1; refine wp_region_quietE (by kernel_rfl) (by kernel_rfl) ?_; (repeat (refine WQ.step (fun K hK => ?_); have HK := hide hK; clear hK; go_simp; refine HK.out _ ?_; clear HK K)); (refine WQ.step (fun K hK => ?_); have HK := hide hK; clear hK; go_simp; apply Exists.intro; refine ⟨fun _ => ?_, HK.out _ ?_⟩; (go_at_call 28; refine extby_of (HARF.out _ (HX.out.trans (ExtBy.h _)))); clear HK K); (repeat (refine WQ.step (fun K hK => ?_); have HK := hide hK; clear hK; go_simp; refine HK.out _ ?_; clear HK K)); (refine WQ.step (fun K hK => ?_); have HK := hide hK; clear hK; go_simp; apply Exists.intro; refine ⟨fun _ => ?_, HK.out _ ?_⟩; (go_at_call 28; refine extby_of (HARB.out _ (HX.out.trans (ExtBy.h _)))); clear HK K); (repeat (refine WQ.step (fun K hK => ?_); have HK := hide hK; clear hK; go_simp; refine HK.out _ ?_; clear HK K)); refine WQ.done ?_; intro w16 hw'; obtain ⟨⟨_, hw16⟩, hw''⟩ := hw'; subst hw''; clear kq0_0 kq0_1; have HT := hide (HT.out.ext hw16); have Hw16 := hide hw16; clear hw16 kz0 kf0 kc0_0 kc0_1 kE; have kT := HT.out; simp only [Tr, Bx, CellsAt, Nat.reduceAdd, Nat.zero_add, and_true] at kT; obtain ⟨⟨kz0, kf0, kc0_0, kc0_1⟩, kE⟩ := kT
                go_wp2_with fail
                go_ret
                exact ⟨rfl, kE⟩
end Go.Proofs.YtabgcpoaepafjaaGreat
