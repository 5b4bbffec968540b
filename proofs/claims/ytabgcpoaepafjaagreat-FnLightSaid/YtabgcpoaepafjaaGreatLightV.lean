/- Walks of the light of a window (both forms): stainsOk, LightOf, BrightestFace. No condition but that a list has at most 1048576 elements. -/
import Derived.Test.YtabgcpoaepafjaaGreatOuter
import Derived.Test.YtabgcpoaepafjaaGreatStain
set_option linter.unusedSimpArgs false
set_option linter.unusedVariables false
namespace Go.Proofs.YtabgcpoaepafjaaGreat
open Go.RowKit

def stainP (p : P3) : Bool := stainOk p.1 p.2.1 p.2.2
noncomputable def litOk (N E : List P2) (S : List P3) : Bool := wholeB N E && (S.length == (fcs N E).length && S.all stainP)
noncomputable def lightTo (N E : List P2) (S : List P3) : Nat → Int × Int × Int
  | 0 => (0, 0, 0)
  | k + 1 => if (k : Int) = outerI N E then lightTo N E S k else ((lightTo N E S k).1 + areaAt N E k * (S.getD k (0, 0, 0)).1, (lightTo N E S k).2.1 + areaAt N E k * (S.getD k (0, 0, 0)).2.1, (lightTo N E S k).2.2 + areaAt N E k * (S.getD k (0, 0, 0)).2.2)
noncomputable def brightTo (N E : List P2) (S : List P3) : Nat → Int × Int
  | 0 => (-1, -1)
  | k + 1 => if (k : Int) ≠ outerI N E ∧ (brightTo N E S k).2 < areaAt N E k * ((S.getD k (0, 0, 0)).1 + (S.getD k (0, 0, 0)).2.1 + (S.getD k (0, 0, 0)).2.2) then ((k : Int), areaAt N E k * ((S.getD k (0, 0, 0)).1 + (S.getD k (0, 0, 0)).2.1 + (S.getD k (0, 0, 0)).2.2)) else brightTo N E S k
theorem litOk_iff {N E : List P2} {S : List P3} : litOk N E S = true ↔ wholeB N E = true ∧ S.length = (fcs N E).length ∧ S.all stainP = true := by simp [litOk]
theorem area_range {N E : List P2} {k : Nat} (hk : k < (fcs N E).length) : 0 ≤ areaAt N E (k : Nat) ∧ areaAt N E (k : Nat) ≤ 16000 := by
  have h := fcs_at hk
  rw [areaAt_yes hk]
  omega
theorem stain_at {S : List P3} (h : S.all stainP = true) {k : Nat} (hk : k < S.length) : 0 ≤ S[k].1 ∧ S[k].1 ≤ 1000 ∧ 0 ≤ S[k].2.1 ∧ S[k].2.1 ≤ 1000 ∧ 0 ≤ S[k].2.2 ∧ S[k].2.2 ≤ 1000 := stainOk_true (List.all_eq_true.1 h _ (List.getElem_mem hk))
theorem prod_in {a s : Int} (h1 : 0 ≤ a) (h2 : a ≤ 16000) (h3 : 0 ≤ s) {m : Int} (h4 : s ≤ m) (h5 : 0 ≤ m) : 0 ≤ a * s ∧ a * s ≤ 16000 * m := ⟨Int.mul_nonneg h1 h3, Int.mul_le_mul h2 h4 h3 (by omega)⟩
theorem light_in {N E : List P2} {S : List P3} (h : litOk N E S = true) : ∀ k, k ≤ S.length → (0 ≤ (lightTo N E S k).1 ∧ (lightTo N E S k).1 ≤ 16000000 * k) ∧ (0 ≤ (lightTo N E S k).2.1 ∧ (lightTo N E S k).2.1 ≤ 16000000 * k) ∧ 0 ≤ (lightTo N E S k).2.2 ∧ (lightTo N E S k).2.2 ≤ 16000000 * k
  | 0, _ => by simp [lightTo]
  | k + 1, hk => by
    obtain ⟨h1, h2, h3⟩ := litOk_iff.1 h
    have ih := light_in h k (by omega)
    have hs := stain_at h3 (show k < S.length by omega)
    have ha := area_range (N := N) (E := E) (k := k) (by omega)
    have e : S.getD k (0, 0, 0) = S[k] := by simp [show k < S.length by omega]
    simp only [lightTo]
    rw [e]
    have p1 := prod_in ha.1 ha.2 hs.1 hs.2.1 (by omega)
    have p2 := prod_in ha.1 ha.2 hs.2.2.1 hs.2.2.2.1 (by omega)
    have p3 := prod_in ha.1 ha.2 hs.2.2.2.2.1 hs.2.2.2.2.2 (by omega)
    split
    · refine ⟨⟨ih.1.1, ?_⟩, ⟨ih.2.1.1, ?_⟩, ih.2.2.1, ?_⟩ <;> push_cast <;> omega
    · refine ⟨⟨?_, ?_⟩, ⟨?_, ?_⟩, ?_, ?_⟩ <;> dsimp only <;> push_cast <;> omega
theorem fcs_lit_len {N E : List P2} {S : List P3} (h : litOk N E S = true) : S.length ≤ 40 := by
  rw [(litOk_iff.1 h).2.1]
  exact fcs_len
set_option maxRecDepth 20000 in
set_option maxHeartbeats 4000000 in
theorem stainsOk_any (N E : List P2) (S : List P3) (A B C : Option Addr) (c c' c3 : Nat) (w : World) (hw : WR w N E A B c c') (hS : S.length ≤ 1048576) (hrs : R3 w C S) :
    Calls Tryz.prog 60 #[.agg #[.slice A N.length c, .slice B E.length c'], .slice C S.length c3] w fun e w' => e = .returned (.bool (litOk N E S)) ∧ Ext w w' := by
  have HW := hide hw
  have HR := hide hrs
  clear hw hrs
  
  go_enter Tryz.func60, Tryz.ntmps60
  go_wp2_with fail
  obtain ⟨w0, hw⟩ : ∃ w1, w1 = w.alloc (Obj.cells #[Value.slice A N.length c, Value.slice B E.length c'] 27) := ⟨_, rfl⟩; rw [← hw]; have kT : Tr [(w.heap.size, [.slice A N.length c, .slice B E.length c'])] w w0 := (by rw [hw]; exact ⟨by (first | (simp [Bx, CellsAt, go_sem, *]; done) | (simp [Bx, CellsAt, go_sem, *]; omega)), by (repeat (first | exact kE | exact Ext.refl _ | apply Ext.alloc | apply Ext.drewN | apply Ext.drew | apply Ext.set0 | apply Ext.set1 | apply Ext.set2 | apply Ext.set3 | (refine Ext.setk ?_ (by omega) _) | (apply Ext.snoc; assumption)))⟩); have HT := hide kT; clear hw kT; have kT := HT.out; simp only [Tr, Bx, CellsAt, Nat.reduceAdd, Nat.zero_add, and_true] at kT; obtain ⟨⟨kz0, kf0, kc0_0, kc0_1⟩, kE⟩ := kT
  obtain ⟨v, hv⟩ : ∃ v, wholeB N E = v := ⟨_, rfl⟩
  have HC := IsWhole_any N E A B c c' w0 (HW.out.ext kE)
  rw [hv] at HC
  have HV := hide hv
  clear hv
  refine (HC).mono ?_; rintro e w1 ⟨rfl, hb⟩; have HT := hide (HT.out.ext hb); have Hw1 := hide hb; clear hb; clear kz0 kf0 kc0_0 kc0_1 kE; have kT := HT.out; simp only [Tr, Bx, CellsAt, Nat.reduceAdd, Nat.zero_add, and_true] at kT; obtain ⟨⟨kz0, kf0, kc0_0, kc0_1⟩, kE⟩ := kT
  cases v with
  | false =>
    go_wp2_with fail
    go_ret
    exact ⟨ret_bool (by simp [litOk, HV.out]), kE⟩
  | true =>
    have HF := FacesOf_any N E A B c c' w1 (HW.out.ext kE)
    have hl40 := fcs_len (N := N) (E := E)
    obtain ⟨n, hn⟩ : ∃ n, (fcs N E).length = n := ⟨_, rfl⟩
    have HL := hide (show litOk N E S = (S.length == n && S.all stainP) by simp [litOk, HV.out, hn])
    rw [hn] at HF hl40
    clear hn
    have HF := hide (HF.mono (R' := fun e w' => ∃ A2 c2, e = .returned (.slice A2 n c2) ∧ Ext w1 w') (by rintro e w' ⟨A2, c2, h1, _, _, _, _, h2⟩; exact ⟨A2, c2, h1, h2⟩))
    by_cases hne : S.length = n
    · have h1 : ((S.length : Int) != (n : Int)) = false := by simp; omega
      have h2 : (S.length != n) = false := by simp; omega
      have HNE := hide hne
      clear hne
      go_wp2_with (go_at_call 96; refine HF.out.mono ?_; rintro e w5 ⟨A2, c2, rfl, hb5⟩)
      have HE5 := hide (kE.trans hb5)
      clear hb5 h1 h2 HT
      clear kz0 kf0 kc0_0 kc0_1 kE
      go_loopw [20] (fun i wi => ∃ k : Nat, k ≤ S.length ∧ i = .int .i64 k ∧ Hid ((S.take k).all stainP = true) ∧ Hid (Ext w wi)) (fun i _ => S.length - (intOf i).toNat)
      case atStart => exact ⟨0, Nat.zero_le _, rfl, hide (by simp), HE5⟩
      case round =>
        clear HE5
        obtain ⟨k, hk, rfl, hz, HE⟩ := hrel
        by_cases hlt : k < S.length
        · have hlz : (k : Int) < (S.length : Int) := by omega
          obtain ⟨b, off, rfl, hb, e0, e1, e2⟩ := R3.at_ (HR.out.ext HE.out) hlt
          have HA := hide (all_take_succ S stainP k hlt)
          have HA2 := hide (fun hp => all_false_at S stainP k hlt hp)
          obtain ⟨⟨x, y, z⟩, hxyz⟩ : ∃ q : P3, S[k] = q := ⟨_, rfl⟩
          rw [hxyz] at HA HA2 e0 e1 e2
          dsimp only at e0 e1 e2
          clear hxyz
          go_wp2_with fail
          obtain ⟨w6, hw6⟩ : ∃ w6, w6 = wr.alloc (Obj.cells #[Value.int IntKind.i64 x, Value.int IntKind.i64 y, Value.int IntKind.i64 z] 50) := ⟨_, rfl⟩
          rw [← hw6]
          have HE6 := hide (show Ext w w6 from by rw [hw6]; exact HE.out.alloc _)
          clear hw6 e0 e1 e2
          refine (StainOk_any x y z w6).mono ?_
          rintro e w7 ⟨rfl, hb7⟩
          have HE7 := hide (HE6.out.trans hb7)
          clear hb7
          obtain ⟨bv, hbv⟩ : ∃ bv, stainOk x y z = bv := ⟨_, rfl⟩
          have HBV := hide hbv
          rw [hbv]
          clear hbv
          cases bv with
          | true =>
            go_wp2_with fail
            go_roundw
            case rel => exact ⟨k + 1, by omega, by go_num, hide (by rw [HA.out, hz.out]; simpa [stainP] using HBV.out), HE7⟩
            case measure => simp [intOf]; omega
          | false =>
            go_wp2_with fail
            go_ret
            exact ⟨ret_bool (by rw [HL.out, HA2.out (by simpa [stainP] using HBV.out)]; simp), HE7.out⟩
        · obtain rfl : k = S.length := by omega
          go_wp2_with fail
          go_ret
          exact ⟨ret_bool (by have h := hz.out; rw [List.take_length] at h; rw [HL.out, h, HNE.out]; simp), HE.out⟩
    · have h1 : ((S.length : Int) != (n : Int)) = true := by simp; omega
      have h2 : (S.length != n) = true := by simp; omega
      have HNE := hide hne
      clear hne
      go_wp2_with (go_at_call 96; refine HF.out.mono ?_; rintro e w5 ⟨A2, c2, rfl, hb5⟩)
      go_ret
      exact ⟨ret_bool (by rw [HL.out]; simp; intro e; exact absurd e HNE.out), kE.trans hb5⟩
end Go.Proofs.YtabgcpoaepafjaaGreat
namespace Go.Proofs.YtabgcpoaepafjaaGreat
open Go.RowKit

noncomputable def lightV (N E : List P2) (S : List P3) : Int × Int × Int := if litOk N E S = true then lightTo N E S S.length else (0, 0, 0)
set_option maxRecDepth 20000 in
set_option maxHeartbeats 4000000 in
theorem LightOf_any (N E : List P2) (S : List P3) (A B C : Option Addr) (c c' c3 : Nat) (w : World) (hw : WR w N E A B c c') (hS : S.length ≤ 1048576) (hrs : R3 w C S) :
    Calls Tryz.prog 19 #[.agg #[.slice A N.length c, .slice B E.length c'], .slice C S.length c3] w fun e w' => e = .returned (.tuple #[.int .i64 (lightV N E S).1, .int .i64 (lightV N E S).2.1, .int .i64 (lightV N E S).2.2]) ∧ Ext w w' := by
  have HW := hide hw
  have HR := hide hrs
  clear hw hrs
  
  go_enter Tryz.func19, Tryz.ntmps19
  go_wp2_with fail
  obtain ⟨w0, hw⟩ : ∃ w1, w1 = w.alloc (Obj.cells #[Value.slice A N.length c, Value.slice B E.length c'] 27) := ⟨_, rfl⟩; rw [← hw]; have kT : Tr [(w.heap.size, [.slice A N.length c, .slice B E.length c'])] w w0 := (by rw [hw]; exact ⟨by (first | (simp [Bx, CellsAt, go_sem, *]; done) | (simp [Bx, CellsAt, go_sem, *]; omega)), by (repeat (first | exact kE | exact Ext.refl _ | apply Ext.alloc | apply Ext.drewN | apply Ext.drew | apply Ext.set0 | apply Ext.set1 | apply Ext.set2 | apply Ext.set3 | (refine Ext.setk ?_ (by omega) _) | (apply Ext.snoc; assumption)))⟩); have HT := hide kT; clear hw kT; have kT := HT.out; simp only [Tr, Bx, CellsAt, Nat.reduceAdd, Nat.zero_add, and_true] at kT; obtain ⟨⟨kz0, kf0, kc0_0, kc0_1⟩, kE⟩ := kT
  obtain ⟨v, hv⟩ : ∃ v, litOk N E S = v := ⟨_, rfl⟩
  have HC := stainsOk_any N E S A B C c c' c3 w0 (HW.out.ext kE) hS (HR.out.ext kE)
  rw [hv] at HC
  have HV := hide hv
  clear hv
  refine (HC).mono ?_; rintro e w1 ⟨rfl, hb⟩; have HT := hide (HT.out.ext hb); have Hw1 := hide hb; clear hb; clear kz0 kf0 kc0_0 kc0_1 kE; have kT := HT.out; simp only [Tr, Bx, CellsAt, Nat.reduceAdd, Nat.zero_add, and_true] at kT; obtain ⟨⟨kz0, kf0, kc0_0, kc0_1⟩, kE⟩ := kT
  cases v with
  | false =>
    have HL := hide (show lightV N E S = (0, 0, 0) by unfold lightV; rw [HV.out]; rfl)
    go_wp2_with fail
    refine bodyPost_ret (v := .tuple #[.int .i64 0, .int .i64 0, .int .i64 0]) (by simp only [results, Tryz.results19]; go_simp) rfl ⟨?_, ?_⟩
    · rw [HL.out]
    · exact kE
  | true =>
    have HL := hide (show lightV N E S = lightTo N E S S.length by unfold lightV; rw [HV.out]; rfl)
    have HIN := hide (light_in HV.out)
    have hl40 := fcs_lit_len HV.out
    have HLT := hide (litOk_iff.1 HV.out)
    have HC2 := OuterFace_any N E A B c c' _ (HW.out.ext kE)
    have HST := hide (fun (k : Nat) => show lightTo N E S (k + 1) = _ from rfl)
    obtain ⟨o, ho⟩ : ∃ o, outerI N E = o := ⟨_, rfl⟩
    rw [ho] at HC2
    have HOO := hide ho
    clear ho
    go_wp2_with fail
    refine (HC2).mono ?_; rintro e w2 ⟨rfl, hb⟩; have HT := hide (HT.out.ext hb); have Hw2 := hide hb; clear hb; clear kz0 kf0 kc0_0 kc0_1 kE; have kT := HT.out; simp only [Tr, Bx, CellsAt, Nat.reduceAdd, Nat.zero_add, and_true] at kT; obtain ⟨⟨kz0, kf0, kc0_0, kc0_1⟩, kE⟩ := kT
    have HT2 := HT
    clear HT
    go_wp2_with fail
    clear kz0 kf0 kc0_0 kc0_1 kE
    go_loopw [8, 9, 10, 22] (fun r g b i wi => ∃ k : Nat, k ≤ S.length ∧ i = .int .i64 k ∧ r = .int .i64 (lightTo N E S k).1 ∧ g = .int .i64 (lightTo N E S k).2.1 ∧ b = .int .i64 (lightTo N E S k).2.2 ∧ Hid (Ext w2 wi)) (fun _ _ _ i _ => S.length - (intOf i).toNat)
    case atStart => exact ⟨0, Nat.zero_le _, rfl, rfl, rfl, rfl, hide (Ext.refl _)⟩
    case round =>
      obtain ⟨k, hk, rfl, rfl, rfl, rfl, HE⟩ := hrel
      have HT := hide (HT2.out.ext HE.out)
      have kT := HT.out; simp only [Tr, Bx, CellsAt, Nat.reduceAdd, Nat.zero_add, and_true] at kT; obtain ⟨⟨kz0, kf0, kc0_0, kc0_1⟩, kE⟩ := kT
      by_cases hlt : k < S.length
      · have hlz : (k : Int) < (S.length : Int) := by omega
        obtain ⟨b, off, rfl, hb, e0, e1, e2⟩ := R3.at_ (HR.out.ext kE) hlt
        have hin := HIN.out k (by omega)
        have hst := stain_at HLT.out.2.2 hlt
        have har := area_range (N := N) (E := E) (k := k) (by have := HLT.out.2.1; omega)
        have HA := hide (AreaOf_any N E A B c c' (k : Int))
        have HN := hide (show lightTo N E S (k + 1) = if (k : Int) = o then lightTo N E S k else ((lightTo N E S k).1 + areaAt N E k * S[k].1, (lightTo N E S k).2.1 + areaAt N E k * S[k].2.1, (lightTo N E S k).2.2 + areaAt N E k * S[k].2.2) by
          have e : S.getD k (0, 0, 0) = S[k] := by simp [hlt]
          simp only [lightTo]
          rw [HOO.out, e])
        obtain ⟨⟨x, y, z⟩, hxyz⟩ : ∃ q : P3, S[k] = q := ⟨_, rfl⟩
        rw [hxyz] at HN hst e0 e1 e2
        dsimp only at HN hst e0 e1 e2
        clear hxyz
        obtain ⟨R, hR⟩ : ∃ q, (lightTo N E S k).1 = q := ⟨_, rfl⟩
        obtain ⟨G, hG⟩ : ∃ q, (lightTo N E S k).2.1 = q := ⟨_, rfl⟩
        obtain ⟨Bv, hB⟩ : ∃ q, (lightTo N E S k).2.2 = q := ⟨_, rfl⟩
        have HP := hide (show lightTo N E S k = (R, G, Bv) by rw [← hR, ← hG, ← hB])
        rw [hR, hG, hB] at hin HN ⊢
        clear hR hG hB
        obtain ⟨a, ha⟩ : ∃ a, areaAt N E (k : Int) = a := ⟨_, rfl⟩
        rw [ha] at HN HA har
        clear ha
        have p1 := prod_in har.1 har.2 hst.1 hst.2.1 (by omega)
        have p2 := prod_in har.1 har.2 hst.2.2.1 hst.2.2.2.1 (by omega)
        have p3 := prod_in har.1 har.2 hst.2.2.2.2.1 hst.2.2.2.2.2 (by omega)
        have v1 : IntKind.i64.wrap (a * x) = a * x := by rw [IntKind.wrap_i64]; omega
        have v2 : IntKind.i64.wrap (a * y) = a * y := by rw [IntKind.wrap_i64]; omega
        have v3 : IntKind.i64.wrap (a * z) = a * z := by rw [IntKind.wrap_i64]; omega
        have v4 : IntKind.i64.wrap (R + a * x) = R + a * x := by rw [IntKind.wrap_i64]; omega
        have v5 : IntKind.i64.wrap (G + a * y) = G + a * y := by rw [IntKind.wrap_i64]; omega
        have v6 : IntKind.i64.wrap (Bv + a * z) = Bv + a * z := by rw [IntKind.wrap_i64]; omega
        have HAR := hide (And.intro hin (And.intro hst (And.intro har (And.intro p1 (And.intro p2 p3)))))
        clear hin hst har p1 p2 p3
        by_cases hko : (k : Int) = o
        · have h1 : ((k : Int) != o) = false := by simp; exact hko
          have HKO := hide hko
          clear hko
          go_wp2_with fail
          have HE6 := hide (HE.out.alloc (Obj.cells #[Value.int IntKind.i64 x, Value.int IntKind.i64 y, Value.int IntKind.i64 z] 50))
          clear v1 v2 v3 v4 v5 v6 h1
          go_roundw
          case rel => exact ⟨k + 1, by omega, by go_num, by rw [HN.out, if_pos HKO.out, HP.out], by rw [HN.out, if_pos HKO.out, HP.out], by rw [HN.out, if_pos HKO.out, HP.out], HE6⟩
          case measure => simp [intOf]; omega
        · have h1 : ((k : Int) != o) = true := by simp; exact hko
          have HKO := hide hko
          clear hko
          go_upto_region 9 with fail
          obtain ⟨w6, hw⟩ : ∃ w1, w1 = wr.alloc (Obj.cells #[Value.int IntKind.i64 x, Value.int IntKind.i64 y, Value.int IntKind.i64 z] 50) := ⟨_, rfl⟩; rw [← hw]; have Hw6 := hide (show Ext wr w6 from (by (rw [hw]; (try clear kE); repeat (first | exact kE | exact Ext.refl _ | apply Ext.alloc | apply Ext.drewN | apply Ext.drew | apply Ext.set0 | apply Ext.set1 | apply Ext.set2 | apply Ext.set3 | (refine Ext.setk ?_ (by omega) _) | (apply Ext.snoc; assumption))))); have HT := hide (HT.out.more Hw6.out (wr.heap.size) [.int .i64 x, .int .i64 y, .int .i64 z] (by (rw [hw]; first | (simp [CellsAt, go_sem, *]; done) | (simp [CellsAt, go_sem, *]; omega)))); have Zw6 := hide (congrArg (fun z : World => z.heap.size) hw); clear hw kz0 kf0 kc0_0 kc0_1 kE; have kT := HT.out; simp only [Tr, Bx, CellsAt, Nat.reduceAdd, Nat.zero_add, and_true] at kT; obtain ⟨⟨⟨kz0, kf0, kc0_0, kc0_1, kc0_2⟩, ⟨kz1, kf1, kc1_0, kc1_1⟩⟩, kE⟩ := kT
          clear e0 e1 e2
          go_wp2_with fail
          refine (HA.out w6 (HW.out.ext kE)).mono ?_; rintro e w7 ⟨rfl, hb⟩; have HT := hide (HT.out.ext hb); have Hw7 := hide hb; clear hb; clear kz0 kf0 kc0_0 kc0_1 kc0_2 kz1 kf1 kc1_0 kc1_1 kE; have kT := HT.out; simp only [Tr, Bx, CellsAt, Nat.reduceAdd, Nat.zero_add, and_true] at kT; obtain ⟨⟨⟨kz0, kf0, kc0_0, kc0_1, kc0_2⟩, ⟨kz1, kf1, kc1_0, kc1_1⟩⟩, kE⟩ := kT
          go_wp2_with fail
          have HE6 := hide (HE.out.trans (Hw6.out.trans Hw7.out))
          clear v1 v2 v3 v4 v5 v6 h1
          go_roundw
          case rel => exact ⟨k + 1, by omega, by go_num, by rw [HN.out, if_neg HKO.out], by rw [HN.out, if_neg HKO.out], by rw [HN.out, if_neg HKO.out], HE6⟩
          case measure => simp [intOf]; omega
      · obtain rfl : k = S.length := by omega
        
        go_wp2_with fail
        refine bodyPost_ret (v := .tuple #[.int .i64 (lightTo N E S S.length).1, .int .i64 (lightTo N E S S.length).2.1, .int .i64 (lightTo N E S S.length).2.2]) (by simp only [results, Tryz.results19]; go_simp) rfl ⟨?_, ?_⟩
        · rw [HL.out]
        · exact kE
end Go.Proofs.YtabgcpoaepafjaaGreat
