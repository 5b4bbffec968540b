/- The walk of the law on assemblies. No condition but that the argument lies in memory. -/
import Derived.Test.YtabgcpoaepafjaaAsmV
import Derived.Test.YtabgcpoaepafjaaWinH
import Derived.Test.YtabgcpoaepafjaaDrawA
set_option linter.unusedSimpArgs false
set_option linter.unusedVariables false
namespace Go.Proofs.Ytabgcpoaepafjaa
open Go.RowKit

section
variable {N E : List P2} {A B : Option Addr} {c c' : Nat} {W : World}
theorem asm_at {l : List Int} {n1 c3 : Nat} {C : Option Addr} (hn : l.length = n1) (hw : WR W N E A B c c') (hl : n1 ≤ 1048576) (hr : RI W C l) (ha : asmB N E l = true) : Calls Try.prog 24 #[.agg #[.slice A N.length c, .slice B E.length c'], .slice C n1 c3] W fun e w' => e = .returned (.bool true) ∧ Ext W w' := by
  subst hn
  have h := IsAssembly_any N E l A B C c c' c3 W hw hl hr
  rw [ha] at h
  exact h
theorem first_no {f : Nat} (hw : WR W N E A B c c') (h : firstOk N E (f : Nat) = false) : Calls Try.prog 27 #[.agg #[.slice A N.length c, .slice B E.length c'], .int .i64 (f : Int)] W fun e w' => ∃ A2 c2 k, e = .returned (.tuple #[.slice A2 k c2, .bool false]) ∧ Ext W w' := by
  have h1 := FirstAssembly_any N E A B c c' (f : Int) W hw
  rw [h] at h1
  exact h1.mono (by rintro e w' ⟨A2, c2, e1, _, e2⟩; exact ⟨A2, c2, _, e1, e2⟩)
theorem first_yes {f n1 : Nat} (hw : WR W N E A B c c') (hn1 : (fcs N E).length = n1 + 1) (hf : f < (fcs N E).length) (h : firstOk N E (f : Nat) = true) : Calls Try.prog 27 #[.agg #[.slice A N.length c, .slice B E.length c'], .int .i64 (f : Int)] W fun e w' => ∃ g off c2 R, e = .returned (.tuple #[.slice (some ⟨g, off, none⟩) n1 c2, .bool true]) ∧ g < w'.heap.size ∧ w'.cell? ⟨g, off, none⟩ = some (.int .i64 (f : Int)) ∧ RI w' (some ⟨g, off, none⟩) R ∧ R.length = n1 ∧ asmB N E R = true ∧ 0 < n1 ∧ Ext W w' := by
  have h1 := FirstAssembly_any N E A B c c' (f : Int) W hw
  obtain ⟨R, r1, r2, r3, r4⟩ := first_facts h hf
  rw [h, r1] at h1
  have hp : 0 < R.length := by
    cases R with
    | nil => cases r4
    | cons a R => simp
  refine h1.mono ?_
  rintro e w' ⟨A2, c2, e1, e2, e3⟩
  have hr := Rds.of_own e2
  have hl : (castN R).length = n1 := by rw [castN_length]; omega
  obtain ⟨g, off, rfl, hg, hc⟩ := hr.2 (by rw [castN_length]; exact hp)
  refine ⟨g, off, c2, castN R, by rw [e1, hl], hg, ?_, hr, hl, r3, by omega, e3⟩
  have q : (encI (castN R))[0]? = some (.int .i64 (f : Int)) := by
    rw [castN_get R hp]
    have : R[0] = f := by
      have := List.getElem?_eq_getElem hp
      rw [r4] at this
      injection this with this
      exact this.symm
    rw [this]
  simpa using hc 0 _ q
theorem loose_at {s k : Nat} (hw : WR W N E A B c c') (hm : Mid N E s k) (h20 : (fcs N E).length ≤ 20) (h0 : s ≠ 0) : Calls Try.prog 28 #[.agg #[.slice A N.length c, .slice B E.length c'], .int .i64 (s : Int)] W fun e w' => ∃ g off f n1 c2, e = .returned (.slice (some ⟨g, off, none⟩) n1 c2) ∧ g < w'.heap.size ∧ w'.cell? ⟨g, off, none⟩ = some (.int .i64 ((f : Nat) : Int)) ∧ f < (fcs N E).length ∧ s.testBit f = true ∧ 1 ≤ n1 ∧ n1 ≤ 41 ∧ (s ≠ 2 ^ f → 2 ≤ n1) ∧ Mid N E (s - 2 ^ f) (k + 1) ∧ Ext W w' := by
  have h1 := LooseAfter_any N E A B c c' (s : Int) W hw
  obtain ⟨f, rest, r1, r2, r3, r4, r5, r6⟩ := hm.next h20 h0
  rw [r1] at h1
  refine h1.mono ?_
  rintro e w' ⟨A2, c2, e1, e2, e3⟩
  have hr := Rds.of_own e2
  obtain ⟨g, off, rfl, hg, hc⟩ := hr.2 (by simp [castL])
  refine ⟨g, off, f, rest.length + 1, c2, by rw [e1]; simp [castL], hg, ?_, r2, r3, by omega, by omega, fun q => ?_, r5, e3⟩
  · have q : (encI (castL (f :: rest)))[0]? = some (.int .i64 (f : Int)) := by simp [castL, encI]
    simpa using hc 0 _ q
  · have := List.length_pos_iff.2 (r4 q)
    omega
theorem face_len (hw : WR W N E A B c c') {n : Nat} (hn : (fcs N E).length = n) : Calls Try.prog 21 #[.agg #[.slice A N.length c, .slice B E.length c']] W fun e w' => ∃ A2 c2, e = .returned (.slice A2 n c2) ∧ Ext W w' := by
  subst hn
  exact (sFacesOf_any N E A B c c' W hw).mono (by rintro e w' ⟨A2, c2, h1, _, _, h2⟩; exact ⟨A2, c2, h1, h2⟩)
theorem outer_is (hw : WR W N E A B c c') {o : Nat} (ho : outerI N E = (o : Int)) : Calls Try.prog 22 #[.agg #[.slice A N.length c, .slice B E.length c']] W fun e w' => e = .returned (.int .i64 (o : Int)) ∧ Ext W w' := by
  rw [← ho]
  exact sOuterFace_any N E A B c c' W hw
theorem count_at (hw : WR W N E A B c c') {k : Nat} (hk : countA N E = (k : Int)) : Calls Try.prog 23 #[.agg #[.slice A N.length c, .slice B E.length c']] W fun e w' => e = .returned (.int .i64 (k : Int)) ∧ Ext W w' := by
  rw [← hk]
  exact CountAssemblies_any N E A B c c' W hw
theorem joined_at (hw : WR W N E A B c c') {s : Int} {j : Bool} (hj : joinedI N E s = j) : Calls Try.prog 25 #[.agg #[.slice A N.length c, .slice B E.length c'], .int .i64 s] W fun e w' => e = .returned (.bool j) ∧ Ext W w' := by
  rw [← hj]
  exact AreJoined_any N E A B c c' s W hw
theorem sjoined_at (hw : WR W N E A B c c') {s : Int} {j : Bool} (hj : joinedI N E s = j) : Calls Try.prog 26 #[.agg #[.slice A N.length c, .slice B E.length c'], .int .i64 s] W fun e w' => e = .returned (.bool j) ∧ Ext W w' := by
  rw [← hj]
  exact sAreJoined_any N E A B c c' s W hw
end
set_option maxRecDepth 20000 in
set_option maxHeartbeats 16000000 in
theorem FnAssembly_walk (l : List Int) (A0 : Option Addr) (cc : Nat) (w : World) (hl : l.length ≤ maxLen) (hr : RB w A0 l) :
    Calls Try.prog 4 #[.slice A0 l.length cc] w fun e w' => e = .returned (.bool true) ∧ Ext w w' := by
  by_cases hb : (1048576 : Int) < l.length
  · go_enter Try.func4, Try.ntmps4
    go_wp2_with fail
    refine (big_any l A0 cc _ hl).mono ?_; rintro e w1 ⟨rfl, rfl⟩
    rw [decide_eq_true (by omega)]
    go_wp2_with fail
    go_ret
    exact ⟨rfl, by repeat (first | exact kE | exact Ext.refl _ | apply Ext.alloc | apply Ext.drewN | apply Ext.drew | apply Ext.set0 | apply Ext.set1 | apply Ext.set2 | apply Ext.set3 | (refine Ext.setk ?_ (by omega) _) | (apply Ext.snoc; assumption))⟩
  · have HR := hide hr
    clear hr
    have hm : l.length ≤ 1048576 := by omega
    go_enter Try.func4, Try.ntmps4
    go_wp2_with fail
    refine (big_any l A0 cc _ hl).mono ?_; rintro e w1 ⟨rfl, rfl⟩
    rw [decide_eq_false (by omega)]
    go_wp2_with fail
    refine (DrawWhole_any l A0 cc _ hm HR.out).mono ?_
    rintro e wD ⟨N, E, A, B, c, c', rfl, ⟨hwh, h5, h13, hEN⟩, hWN, kE⟩
    have HWR := hide (hWN.wr (by omega) (by omega))
    have h10 := fcs_ten hwh hEN
    obtain ⟨ho1, ho2⟩ := outer_nat hwh
    obtain ⟨kw, hk1, hk2, hk3, hk4⟩ := count_facts hwh h10
    have HCA := hide (fun (W : World) (hE : Ext wD W) => count_at (HWR.out.ext hE) hk1)
    have HOU := hide (fun (W : World) (hE : Ext wD W) => outer_is (HWR.out.ext hE) ho1)
    have HJ := hide (fun (s : Int) (j : Bool) (W : World) (hE : Ext wD W) (h : joinedI N E s = j) => joined_at (HWR.out.ext hE) h)
    have HSJ := hide (fun (s : Int) (j : Bool) (W : World) (hE : Ext wD W) (h : joinedI N E s = j) => sjoined_at (HWR.out.ext hE) h)
    have hnum := panes_num ho2
    have hbig : 2 ^ (fcs N E).length ≤ 1024 := Nat.pow_le_pow_right (n := 2) (by decide) h10
    have HMI := hide (Mid.start hwh)
    have HZ := hide (joined_zero (N := N) (E := E))
    have HFN := hide (fun (f : Nat) (W : World) (hE : Ext wD W) (h : firstOk N E (f : Nat) = false) => first_no (HWR.out.ext hE) h)
    have HFY := hide (fun (f n1 : Nat) (W : World) (hE : Ext wD W) (hn1 : (fcs N E).length = n1 + 1) (hf : f < (fcs N E).length) (h : firstOk N E (f : Nat) = true) => first_yes (HWR.out.ext hE) hn1 hf h)
    have HLO := hide (fun (s k : Nat) (W : World) (hE : Ext wD W) (hm : Mid N E s k) (h0 : s ≠ 0) => loose_at (HWR.out.ext hE) hm (by omega) h0)
    have HFI := hide (fun (f : Nat) (h1 : (fcs N E).length ≠ 1) (hf : f < (fcs N E).length) => first_is hwh (by omega) h1 hf)
    have HST := hide (fun (s k : Nat) (h : Mid N E s k) => h.stop)
    have HJW := hide (joined_wall (N := N) (E := E) hwh)
    have HAN := hide (asm_none (N := N) (E := E) hwh)
    have hal0 := allP_zero (N := N) (E := E) hwh
    have hal1 : allP N E = panesN (fcs N E).length (oN N E) := rfl
    rw [← hal1] at hnum
    have HML := hide (fun (s k : Nat) (h : Mid N E s k) => h.jd)
    have HMB := hide (fun (s k : Nat) (h : Mid N E s k) => h.lt)
    obtain ⟨n, hn⟩ : ∃ n, (fcs N E).length = n := ⟨_, rfl⟩
    have HFA := hide (fun (W : World) (hE : Ext wD W) => face_len (HWR.out.ext hE) hn)
    obtain ⟨o, ho⟩ : ∃ o, oN N E = o := ⟨_, rfl⟩
    obtain ⟨P, hP⟩ : ∃ P, allP N E = P := ⟨_, rfl⟩
    rw [hn] at h10 ho2 hk3 hk4 hnum hbig HFY HLO HFI HST HJW HAN hal0 HMB
    rw [ho] at ho2 hnum HOU HFI
    rw [hP] at hk4 hnum HMI HFI hal0
    clear hal1 hWN ho1 hk1 hP ho hn h5 h13 hEN hwh hb
    obtain ⟨j, hj⟩ : ∃ j, joinedI N E (P : Int) = j := ⟨_, rfl⟩
    rw [hj] at hk4 HMI HFI
    have HJP := hide hj
    clear hj
    have hp1 : IntKind.i64.wrap ((2 : Int) ^ n) = ((2 ^ n : Nat) : Int) := pow_word (by omega)
    have hp2 : IntKind.i64.wrap ((2 : Int) ^ o) = ((2 ^ o : Nat) : Int) := pow_word (by omega)
    obtain ⟨PA, hPA⟩ : ∃ PA, 2 ^ n = PA := ⟨_, rfl⟩
    obtain ⟨PB, hPB⟩ : ∃ PB, 2 ^ o = PB := ⟨_, rfl⟩
    rw [hPA] at hp1 hnum hbig HMB
    rw [hPB] at hp2 hnum
    clear hPA hPB
    
    go_wp2_with fail
    have HX := hide ((Ext.refl wD).alloc (Obj.cells #[Value.slice A N.length c, Value.slice B E.length c'] 27))
    obtain ⟨w2, hw⟩ : ∃ w1, w1 = wD.alloc (Obj.cells #[Value.slice A N.length c, Value.slice B E.length c'] 27) := ⟨_, rfl⟩; rw [← hw]; have kT : Tr [(wD.heap.size, [.slice A N.length c, .slice B E.length c'])] w w2 := (by rw [hw]; exact ⟨by (first | (simp [Bx, CellsAt, go_sem, *]; done) | (simp [Bx, CellsAt, go_sem, *]; omega)), by (repeat (first | exact kE | exact Ext.refl _ | apply Ext.alloc | apply Ext.drewN | apply Ext.drew | apply Ext.set0 | apply Ext.set1 | apply Ext.set2 | apply Ext.set3 | (refine Ext.setk ?_ (by omega) _) | (apply Ext.snoc; assumption)))⟩); have HT := hide kT; clear kT; have kT := HT.out; simp only [Tr, Bx, CellsAt, Nat.reduceAdd, Nat.zero_add, and_true] at kT; obtain ⟨⟨kz0, kf0, kc0_0, kc0_1⟩, kE⟩ := kT
    rw [← hw] at HX
    clear hw
    refine (HFA.out _ HX.out).mono ?_; rintro e w3 ⟨A2, c2, rfl, hb⟩; have HT := hide (HT.out.ext hb); have Hw3 := hide hb; clear hb; clear kz0 kf0 kc0_0 kc0_1 kE; have kT := HT.out; simp only [Tr, Bx, CellsAt, Nat.reduceAdd, Nat.zero_add, and_true] at kT; obtain ⟨⟨kz0, kf0, kc0_0, kc0_1⟩, kE⟩ := kT
    have HX := hide (HX.out.trans Hw3.out)
    go_wp2_with fail
    refine (HOU.out _ HX.out).mono ?_; rintro e w4 ⟨rfl, hb⟩; have HT := hide (HT.out.ext hb); have Hw4 := hide hb; clear hb; clear kz0 kf0 kc0_0 kc0_1 kE; have kT := HT.out; simp only [Tr, Bx, CellsAt, Nat.reduceAdd, Nat.zero_add, and_true] at kT; obtain ⟨⟨kz0, kf0, kc0_0, kc0_1⟩, kE⟩ := kT
    have HX := hide (HX.out.trans Hw4.out)
    clear HFA HOU Hw3 Hw4
    go_upto_region 6 with fail
    go_region
    have hdr := (Ext.refl w4).drew
    obtain ⟨w5, hw5⟩ : ∃ w5, w5 = w4.drew := ⟨_, rfl⟩
    rw [← hw5] at hdr ⊢
    have HX := hide (HX.out.trans hdr)
    clear hw5
    have HT := hide (HT.out.ext hdr); clear hdr; have kT := HT.out; simp only [Tr, Bx, CellsAt, Nat.reduceAdd, Nat.zero_add, and_true] at kT; obtain ⟨⟨kz0, kf0, kc0_0, kc0_1⟩, kE⟩ := kT
    have hPv : (PA : Int) - 1 - (PB : Int) = (P : Int) := by omega
    rw [hPv]
    clear hPv hp1 hp2 hnum
    by_cases h1 : n = 1
    · have hP0 : P = 0 := hal0.2 h1
      have hw1 : kw = 1 := hk3 h1
      have HA1 := hide (fun (W : World) (hE : Ext wD W) => asm_at (l := []) (n1 := 0) (C := none) (c3 := 0) rfl (HWR.out.ext hE) (by omega) ⟨rfl, fun h => absurd h (by simp)⟩ (HAN.out h1))
      subst hP0
      subst hw1
      have H1 := hide h1
      clear h1 hal0 hk3 hk4
      go_wp2_with fail
      refine (HCA.out _ HX.out).mono ?_; rintro e w6 ⟨rfl, hb⟩; have HT := hide (HT.out.ext hb); have Hw6 := hide hb; clear hb; clear kz0 kf0 kc0_0 kc0_1 kE; have kT := HT.out; simp only [Tr, Bx, CellsAt, Nat.reduceAdd, Nat.zero_add, and_true] at kT; obtain ⟨⟨kz0, kf0, kc0_0, kc0_1⟩, kE⟩ := kT
      have HX := hide (HX.out.trans Hw6.out)
      go_wp2_with fail
      refine (HA1.out _ HX.out).mono ?_; rintro e w7 ⟨rfl, hb⟩; have HT := hide (HT.out.ext hb); have Hw7 := hide hb; clear hb; clear kz0 kf0 kc0_0 kc0_1 kE; have kT := HT.out; simp only [Tr, Bx, CellsAt, Nat.reduceAdd, Nat.zero_add, and_true] at kT; obtain ⟨⟨kz0, kf0, kc0_0, kc0_1⟩, kE⟩ := kT
      have HX := hide (HX.out.trans Hw7.out)
      go_wp2_with fail
      refine (HJ.out 1 false _ HX.out (HJW.out H1.out)).mono ?_; rintro e w8 ⟨rfl, hb⟩; have HT := hide (HT.out.ext hb); have Hw8 := hide hb; clear hb; clear kz0 kf0 kc0_0 kc0_1 kE; have kT := HT.out; simp only [Tr, Bx, CellsAt, Nat.reduceAdd, Nat.zero_add, and_true] at kT; obtain ⟨⟨kz0, kf0, kc0_0, kc0_1⟩, kE⟩ := kT
      go_wp2_with fail
      go_ret
      exact ⟨rfl, kE⟩
    · have hP0 : P ≠ 0 := fun e => h1 (hal0.1 e)
      have hPz : ((P : Int) == 0) = false := by rw [beq_eq_false_iff_ne]; omega
      have hPn : ¬ (P : Int) = 0 := by omega
      have H1 := hide h1
      have hk5 := hide (hk4 h1)
      have hn0 : (0 : Int) < (n : Int) := by omega
      have hPp : (0 : Int) < (P : Int) := by omega
      clear h1 hal0 hk3 hk4 hP0
      
      go_wp2_with fail
      refine (HSJ.out _ j _ HX.out HJP.out).mono ?_; rintro e w6 ⟨rfl, hb⟩; have HT := hide (HT.out.ext hb); have Hw6 := hide hb; clear hb; clear kz0 kf0 kc0_0 kc0_1 kE; have kT := HT.out; simp only [Tr, Bx, CellsAt, Nat.reduceAdd, Nat.zero_add, and_true] at kT; obtain ⟨⟨kz0, kf0, kc0_0, kc0_1⟩, kE⟩ := kT
      have HX := hide (HX.out.trans Hw6.out)
      go_wp2_with fail
      refine (HCA.out _ HX.out).mono ?_; rintro e w7 ⟨rfl, hb⟩; have HT := hide (HT.out.ext hb); have Hw7 := hide hb; clear hb; clear kz0 kf0 kc0_0 kc0_1 kE; have kT := HT.out; simp only [Tr, Bx, CellsAt, Nat.reduceAdd, Nat.zero_add, and_true] at kT; obtain ⟨⟨kz0, kf0, kc0_0, kc0_1⟩, kE⟩ := kT
      have HX := hide (HX.out.trans Hw7.out)
      clear Hw6 Hw7 HCA HSJ hPz hPn
      cases j with
      | false =>
        have hkz : ¬ (0 : Int) < (kw : Int) := fun q => by have := hk5.out.1 (by omega); cases this
        clear hk5 HFY
        go_wp2_with fail
        refine (HJ.out _ false _ HX.out HJP.out).mono ?_; rintro e w8 ⟨rfl, hb⟩; have HT := hide (HT.out.ext hb); have Hw8 := hide hb; clear hb; clear kz0 kf0 kc0_0 kc0_1 kE; have kT := HT.out; simp only [Tr, Bx, CellsAt, Nat.reduceAdd, Nat.zero_add, and_true] at kT; obtain ⟨⟨kz0, kf0, kc0_0, kc0_1⟩, kE⟩ := kT
        have HX := hide (HX.out.trans Hw8.out)
        clear hkz
        go_wp2_with fail
        clear kz0 kf0 kc0_0 kc0_1 kE
        go_loopw [9] (fun i wr => ∃ f : Nat, f ≤ n ∧ i = .int .i64 f ∧ Hid (Tr [(wD.heap.size, [.slice A N.length c, .slice B E.length c'])] w wr) ∧ Hid (Ext wD wr)) (fun i _ => n - (intOf i).toNat)
        case atStart => exact ⟨0, Nat.zero_le _, rfl, HT, HX⟩
        case round =>
          clear HT HX
          obtain ⟨f, hf, rfl, HT, HX⟩ := hrel
          have kT := HT.out; simp only [Tr, Bx, CellsAt, Nat.reduceAdd, Nat.zero_add, and_true] at kT; obtain ⟨⟨kz0, kf0, kc0_0, kc0_1⟩, kE⟩ := kT
          by_cases hlt : f < n
          · have hfz : (f : Int) < (n : Int) := by omega
            have hok := HFI.out f H1.out hlt
            rw [Bool.false_and] at hok
            go_wp2_with fail
            refine (HFN.out f _ HX.out hok).mono ?_; rintro e w9 ⟨A3, c3, k3, rfl, hb⟩; have HT := hide (HT.out.ext hb); have Hw9 := hide hb; clear hb; clear kz0 kf0 kc0_0 kc0_1 kE; have kT := HT.out; simp only [Tr, Bx, CellsAt, Nat.reduceAdd, Nat.zero_add, and_true] at kT; obtain ⟨⟨kz0, kf0, kc0_0, kc0_1⟩, kE⟩ := kT
            have HX := hide (HX.out.trans Hw9.out)
            clear hok
            go_wp2_with fail
            go_roundw
            case rel => exact ⟨f + 1, by omega, by go_num, HT, HX⟩
            case measure => simp [intOf]; omega
          · obtain rfl : f = n := by omega
            
            go_wp2_with fail
            clear kz0 kf0 kc0_0 kc0_1 kE
            go_loopw [12, 13] (fun v i wr => v = .int .i64 (P : Int) ∧ i = .int .i64 0 ∧ Hid (Tr [(wD.heap.size, [.slice A N.length c, .slice B E.length c'])] w wr) ∧ Hid (Ext wD wr)) (fun _ _ _ => 0)
            case atStart => exact ⟨rfl, rfl, HT, HX⟩
            case round =>
              clear HT HX
              obtain ⟨rfl, rfl, HT, HX⟩ := hrel
              have kT := HT.out; simp only [Tr, Bx, CellsAt, Nat.reduceAdd, Nat.zero_add, and_true] at kT; obtain ⟨⟨kz0, kf0, kc0_0, kc0_1⟩, kE⟩ := kT
              go_wp2_with fail
              refine (HJ.out 0 false _ HX.out HZ.out).mono ?_; rintro e w12 ⟨rfl, hb⟩; have HT := hide (HT.out.ext hb); have Hw12 := hide hb; clear hb; clear kz0 kf0 kc0_0 kc0_1 kE; have kT := HT.out; simp only [Tr, Bx, CellsAt, Nat.reduceAdd, Nat.zero_add, and_true] at kT; obtain ⟨⟨kz0, kf0, kc0_0, kc0_1⟩, kE⟩ := kT
              go_wp2_with fail
              go_ret
              exact ⟨rfl, kE⟩
      | true =>
        have hkz : (0 : Int) < (kw : Int) := by have := hk5.out.2 rfl; omega
        obtain ⟨n1, hn1⟩ : ∃ n1, n = n1 + 1 := ⟨n - 1, by omega⟩
        have hnz : (n : Int) - 1 = (n1 : Int) := by omega
        have hn110 : n1 ≤ 10 := by omega
        have HN1 := hide hn1
        clear hk5 hn1
        
        go_wp2_with fail
        refine (HJ.out _ true _ HX.out HJP.out).mono ?_; rintro e w8 ⟨rfl, hb⟩; have HT := hide (HT.out.ext hb); have Hw8 := hide hb; clear hb; clear kz0 kf0 kc0_0 kc0_1 kE; have kT := HT.out; simp only [Tr, Bx, CellsAt, Nat.reduceAdd, Nat.zero_add, and_true] at kT; obtain ⟨⟨kz0, kf0, kc0_0, kc0_1⟩, kE⟩ := kT
        have HX := hide (HX.out.trans Hw8.out)
        clear hkz
        go_wp2_with fail
        clear kz0 kf0 kc0_0 kc0_1 kE
        go_loopw [9] (fun i wr => ∃ f : Nat, f ≤ n ∧ i = .int .i64 f ∧ Hid (Tr [(wD.heap.size, [.slice A N.length c, .slice B E.length c'])] w wr) ∧ Hid (Ext wD wr)) (fun i _ => n - (intOf i).toNat)
        case atStart => exact ⟨0, Nat.zero_le _, rfl, HT, HX⟩
        case round =>
          clear HT HX
          obtain ⟨f, hf, rfl, HT, HX⟩ := hrel
          have kT := HT.out; simp only [Tr, Bx, CellsAt, Nat.reduceAdd, Nat.zero_add, and_true] at kT; obtain ⟨⟨kz0, kf0, kc0_0, kc0_1⟩, kE⟩ := kT
          by_cases hlt : f < n
          · have hfz : (f : Int) < (n : Int) := by omega
            have hok := HFI.out f H1.out hlt
            rw [Bool.true_and] at hok
            by_cases hfo : f = o
            · subst hfo
              rw [decide_eq_false (fun h => h rfl)] at hok
              go_wp2_with fail
              refine (HFN.out f _ HX.out hok).mono ?_; rintro e w9 ⟨A3, c3, k3, rfl, hb⟩; have HT := hide (HT.out.ext hb); have Hw9 := hide hb; clear hb; clear kz0 kf0 kc0_0 kc0_1 kE; have kT := HT.out; simp only [Tr, Bx, CellsAt, Nat.reduceAdd, Nat.zero_add, and_true] at kT; obtain ⟨⟨kz0, kf0, kc0_0, kc0_1⟩, kE⟩ := kT
              have HX := hide (HX.out.trans Hw9.out)
              clear hok
              go_wp2_with fail
              go_roundw
              case rel => exact ⟨f + 1, by omega, by go_num, HT, HX⟩
              case measure => simp [intOf]; omega
            · rw [decide_eq_true hfo] at hok
              have hne : ((f : Int) == (o : Int)) = false := by rw [beq_eq_false_iff_ne]; omega
              have hne2 : ¬ (f : Int) = (o : Int) := by omega
              have hnn : ((f : Int) != (o : Int)) = true := by rw [bne, hne]; rfl
              have hnn2 : (!((f : Int) != (o : Int))) = false := by rw [hnn]; rfl
              
              go_wp2_with fail
              refine (HFY.out f n1 _ HX.out HN1.out hlt hok).mono ?_; rintro e w9 ⟨g9, o9, c9, R9, rfl, hg9, hcell9, hR9, hRl9, hasm9, hn19, hb⟩; have HT := hide (HT.out.ext hb); have Hw9 := hide hb; clear hb; clear kz0 kf0 kc0_0 kc0_1 kE; have kT := HT.out; simp only [Tr, Bx, CellsAt, Nat.reduceAdd, Nat.zero_add, and_true] at kT; obtain ⟨⟨kz0, kf0, kc0_0, kc0_1⟩, kE⟩ := kT
              have HX := hide (HX.out.trans Hw9.out)
              have HR9 := hide hR9
              have HA9 := hide hasm9
              clear hok hR9 hasm9
              have hn1z : (0 : Int) < (n1 : Int) := by omega
              go_wp2_with fail
              have HC9 := hide (fun (W : World) (hE : Ext w9 W) => asm_at (c3 := c9) hRl9 (HWR.out.ext (HX.out.trans hE)) (by omega) (HR9.out.ext hE) HA9.out)
              have hcellX := hide (fun (W : World) (hE : Ext w9 W) => (hE.facts.1 g9 o9 hg9).trans hcell9)
              refine (HC9.out _ (Ext.refl _)).mono ?_; rintro e w10 ⟨rfl, hb⟩; have HT := hide (HT.out.ext hb); have Hw10 := hide hb; clear hb; clear kz0 kf0 kc0_0 kc0_1 kE; have kT := HT.out; simp only [Tr, Bx, CellsAt, Nat.reduceAdd, Nat.zero_add, and_true] at kT; obtain ⟨⟨kz0, kf0, kc0_0, kc0_1⟩, kE⟩ := kT
              have HX := hide (HX.out.trans Hw10.out)
              have hcell10 := hcellX.out _ Hw10.out
              clear HC9 HR9 HA9 hcell9 hcellX
              go_wp2_with fail
              go_roundw
              case rel => exact ⟨f + 1, by omega, by go_num, HT, HX⟩
              case measure => simp [intOf]; omega
          · obtain rfl : f = n := by omega
            
            go_wp2_with fail
            clear kz0 kf0 kc0_0 kc0_1 kE
            have HMS := hide (HMI.out (by first | rfl | trivial))
            go_loopw [12, 13] (fun v i wr => ∃ k s : Nat, k ≤ f ∧ i = .int .i64 k ∧ v = .int .i64 s ∧ Hid (Mid N E s k) ∧ Hid (Tr [(wD.heap.size, [.slice A N.length c, .slice B E.length c'])] w wr) ∧ Hid (Ext wD wr)) (fun _ i _ => f - (intOf i).toNat)
            case atStart => exact ⟨0, P, Nat.zero_le _, rfl, rfl, HMS, HT, HX⟩
            case round =>
              clear HT HX HMS
              obtain ⟨k, s, hk, rfl, rfl, HM, HT, HX⟩ := hrel
              by_cases hkn : k < f
              · have hkz : (k : Int) < (f : Int) := by omega
                by_cases h0 : s = 0
                · subst h0
                  have kT := HT.out; simp only [Tr, Bx, CellsAt, Nat.reduceAdd, Nat.zero_add, and_true] at kT; obtain ⟨⟨kz0, kf0, kc0_0, kc0_1⟩, kE⟩ := kT
                  go_wp2_with fail
                  refine (HJ.out 0 false _ HX.out HZ.out).mono ?_; rintro e w12 ⟨rfl, hb⟩; have HT := hide (HT.out.ext hb); have Hw12 := hide hb; clear hb; clear kz0 kf0 kc0_0 kc0_1 kE; have kT := HT.out; simp only [Tr, Bx, CellsAt, Nat.reduceAdd, Nat.zero_add, and_true] at kT; obtain ⟨⟨kz0, kf0, kc0_0, kc0_1⟩, kE⟩ := kT
                  go_wp2_with fail
                  go_ret
                  exact ⟨rfl, kE⟩
                · have hs0 : (0 : Int) < (s : Int) := by omega
                  have hsl := HMB.out s k HM.out
                  
                  have kT := HT.out; simp only [Tr, Bx, CellsAt, Nat.reduceAdd, Nat.zero_add, and_true] at kT; obtain ⟨⟨kz0, kf0, kc0_0, kc0_1⟩, kE⟩ := kT
                  go_wp2_with fail
                  refine (HLO.out s k _ HX.out HM.out h0).mono ?_; rintro e w9 ⟨g9, o9, x, m1, c9, rfl, hg9, hcell9, hxn, hbit, hm1, hm2, hm3, hmid, hb⟩; have HT := hide (HT.out.ext hb); have Hw9 := hide hb; clear hb; clear kz0 kf0 kc0_0 kc0_1 kE; have kT := HT.out; simp only [Tr, Bx, CellsAt, Nat.reduceAdd, Nat.zero_add, and_true] at kT; obtain ⟨⟨kz0, kf0, kc0_0, kc0_1⟩, kE⟩ := kT
                  have HX := hide (HX.out.trans Hw9.out)
                  have HM9 := hide hmid
                  have hge := Nat.ge_two_pow_of_testBit hbit
                  have hl0 : ((m1 : Int) == 0) = false := by rw [beq_eq_false_iff_ne]; omega
                  have hl0' : ¬ (m1 : Int) = 0 := by omega
                  have hm1z : (0 : Int) < (m1 : Int) := by omega
                  have hx0 : ¬ (x : Int) < 0 := by omega
                  have hxf : ¬ (f : Int) ≤ (x : Int) := by omega
                  have hba : bits .and .i64 ((s : Int) / 2 ^ x) 1 = 1 := by
                    have h62 : s < 2 ^ 62 := Nat.lt_of_lt_of_le hsl (Nat.le_trans hbig (by decide))
                    rw [bit_at s x h62, hbit]
                    rfl
                  have hpw : IntKind.i64.wrap ((2 : Int) ^ x) = ((2 ^ x : Nat) : Int) := pow_word (by omega)
                  have HNX := hide (HML.out _ _ HM9.out)
                  obtain ⟨Q, hQ⟩ : ∃ Q, 2 ^ x = Q := ⟨_, rfl⟩
                  rw [hQ] at hpw hge hm3 HM9 HNX
                  have HPW := hide (show IntKind.i64.wrap ((2 : Int) ^ x) = (Q : Int) ∧ wrap64 ((2 : Int) ^ x) = (Q : Int) from ⟨hpw, by rw [wrap64_eq]; exact hpw⟩)
                  have HBA := hide hba
                  clear hpw hba
                  have hsq : (s : Int) - (Q : Int) = ((s - Q : Nat) : Int) := by omega
                  clear hmid hQ hbit HM
                  by_cases hsQ : s = Q
                  · obtain rfl := hsQ
                    have e3 : s - s = 0 := by omega
                    have hpw2 := HPW.out.2
                    have hba := HBA.out
                    go_wp2_with fail
                    clear hpw2 hba
                    go_roundw
                    case rel => exact ⟨k + 1, s - s, by omega, by go_num, by first | go_num | (simp; done), HM9, HT, HX⟩
                    case measure => simp [intOf]; omega
                  · have e1 : ((s : Int) == (Q : Int)) = false := by rw [beq_eq_false_iff_ne]; omega
                    have e2 : ¬ (s : Int) = (Q : Int) := by omega
                    have e3 : (0 : Int) < (s : Int) - (Q : Int) := by omega
                    have hm4 := hm3 hsQ
                    have e4 : ¬ (m1 : Int) < 2 := by omega
                    have HZQ := hide (show s - Q ≠ 0 by omega)
                    have hsQz : (s : Int) - (Q : Int) < 9223372036854775808 := by omega
                    clear hsQ hm3 hm4 h0 hge e1
                    have hpw2 := HPW.out.2
                    have hba := HBA.out
                    
                    go_wp2_with fail
                    refine (HJ.out _ true _ HX.out (HNX.out HZQ.out)).mono ?_; rintro e w10 ⟨rfl, hb⟩; have HT := hide (HT.out.ext hb); have Hw10 := hide hb; clear hb; clear kz0 kf0 kc0_0 kc0_1 kE; have kT := HT.out; simp only [Tr, Bx, CellsAt, Nat.reduceAdd, Nat.zero_add, and_true] at kT; obtain ⟨⟨kz0, kf0, kc0_0, kc0_1⟩, kE⟩ := kT
                    have HX := hide (HX.out.trans Hw10.out)
                    go_wp2_with fail
                    clear hpw2 hba
                    go_roundw
                    case rel => exact ⟨k + 1, s - Q, by omega, by go_num, by first | rfl | go_num, HM9, HT, HX⟩
                    case measure => simp [intOf]; omega
              · have hs0 := HST.out s k HM.out (by omega)
                obtain rfl : k = f := by omega
                subst hs0
                
                have kT := HT.out; simp only [Tr, Bx, CellsAt, Nat.reduceAdd, Nat.zero_add, and_true] at kT; obtain ⟨⟨kz0, kf0, kc0_0, kc0_1⟩, kE⟩ := kT
                go_wp2_with fail
                refine (HJ.out 0 false _ HX.out HZ.out).mono ?_; rintro e w12 ⟨rfl, hb⟩; have HT := hide (HT.out.ext hb); have Hw12 := hide hb; clear hb; clear kz0 kf0 kc0_0 kc0_1 kE; have kT := HT.out; simp only [Tr, Bx, CellsAt, Nat.reduceAdd, Nat.zero_add, and_true] at kT; obtain ⟨⟨kz0, kf0, kc0_0, kc0_1⟩, kE⟩ := kT
                go_wp2_with fail
                go_ret
                exact ⟨rfl, kE⟩
end Go.Proofs.Ytabgcpoaepafjaa
