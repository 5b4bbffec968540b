/- Walks of the program's least cost of batches. No condition but that the list is right. -/
import Derived.Test.YtndbbdbnimmcoaaKilnS
import Derived.Test.YtndbbdbnimmcoaaRegR
set_option linter.unusedSimpArgs false
set_option linter.unusedVariables false
namespace Go.Proofs.Ytndbbdbnimmcoaa
open Go.RowKit
theorem costOne_any (a b r : Int) (w : World) : Calls Try.prog 16 #[.agg #[.int .i64 a, .int .i64 b, .int .i64 r]] w fun e w' => e = .returned (.int .i64 1) ∧ Ext w w' := by
  go_enter Try.func16, Try.ntmps16
  go_wp2
  go_ret
  exact ⟨rfl, by repeat (first | exact kE | exact Ext.refl _ | apply Ext.alloc | apply Ext.drewN | apply Ext.drew | apply Ext.set0 | apply Ext.set1 | apply Ext.set2 | apply Ext.set3 | (refine Ext.setk ?_ (by omega) _) | (apply Ext.snoc; assumption))⟩
set_option maxRecDepth 100000 in
set_option maxHeartbeats 4000000 in
theorem fewestOne_any (L : List P3) (A : Option Addr) (c : Nat) (w : World) (hok : firingsB L = true) (hr : R3 w A L) :
    Calls Try.prog 15 #[.slice A L.length c, .func (.func 16) #[] #[]] w fun e w' => ∃ v, e = .returned (.int .i64 v) ∧ MinFir costOne L v ∧ Ext w w' := by
  obtain ⟨j0, hj, hy0, hy1, hy2⟩ := info_parts int_info
  obtain ⟨hl, hall⟩ := firingsB_true hok
  have HR := hide hr
  have HL := hide hall
  have HC : Hid (∀ y ∈ L, 0 ≤ costOne (y.1, y.2.1) ∧ costOne (y.1, y.2.1) ≤ 24) := hide (fun y hy => by have := hall y hy; simp only [costOne, costHours]; omega)
  have HRM : Hid (∀ y ∈ L, y.2.2 ≤ 100) := hide (fun y hy => by have := hall y hy; omega)
  clear hr hall hok
  obtain ⟨N, hN⟩ : ∃ N, 2 ^ L.length = N := ⟨_, rfl⟩
  have hN1 : 1 ≤ N := by rw [← hN]; exact Nat.two_pow_pos _
  have hN2 : N ≤ 1024 := by rw [← hN]; exact Nat.pow_le_pow_right (by decide) hl
  have hsh : wrap64 (2 ^ L.length) = (N : Int) := by
    rw [pow_cast hN]
    exact IntWalk.wrap64_in _ (by omega)
  have HN := hide hN
  clear hN
  go_enter Try.func15, Try.ntmps15
  go_wp2_with (at_make; refine wpList_make_full _ rfl _ _ 27 rfl w.heap.size 3 j0 (.int .i64 0) 1 Try.underlying27 hj hy0 hy1 .i64 .i64 (wrap64 (2 ^ L.length)) (wrap64 (2 ^ L.length)) N rfl rfl hsh hsh (by rw [hy2]; omega) (by unfold maxLen; omega) (Nat.le_refl _) ?_; intro w1 hown1 hgrow1; rw [made_zeros, rowOf_zero] at hown1; have HO1 := hide (Blk.of_full hown1); have HE1 := hide (grown_ext hgrow1); have HZ := hide HO1.out.lt; clear hown1 hgrow1)
  clear hsh
  have HT0 : Hid (∀ t, t < 1 → MinFir costOne (elems L t) ((fun _ => 0 : Nat → Int) t)) := hide (fun t ht => by
    obtain rfl : t = 0 := by omega
    rw [elems_zero]
    exact MinFir.nil)
  go_loopw [6] (fun i wr => ∃ s : Nat, 1 ≤ s ∧ s ≤ N ∧ i = .int .i64 s ∧ (∃ f, Blk wr w.heap.size 3 (rowOf N f) ∧ Hid (∀ t, t < s → MinFir costOne (elems L t) (f t))) ∧ Ext w wr) (fun i _ => N - (intOf i).toNat)
  case atStart => exact ⟨1, Nat.le_refl _, by omega, rfl, ⟨_, HO1.out, HT0⟩, HE1.out⟩
  case round =>
    obtain ⟨s, hs0, hs, rfl, ⟨f, hf, hT⟩, hE⟩ := hrel
    have HF := hide hf
    have HE := hide hE
    clear hf hE HO1 HE1 HT0
    by_cases hlt : s < N
    · have hd0 : wr.cell? ⟨w.heap.size, s, none⟩ = some (.int .i64 (f s)) := (HF.out.cell s).trans (rowOf_get _ hlt)
      have hf0 := HF.out.free s
      go_wp2_with fail
      have h1 := HF.out.set s (.int .i64 1073741824)
      rw [rowOf_set _ _ hlt] at h1
      have h3 := HE.out.set (p := ⟨w.heap.size, s, none⟩) (Nat.le_refl _) (.int .i64 1073741824)
      obtain ⟨w4, hw4⟩ : ∃ w4, w4 = wr.setCell ⟨w.heap.size, s, none⟩ (.int .i64 1073741824) := ⟨_, rfl⟩
      rw [← hw4] at h1 h3 ⊢
      have H1 := hide h1
      have H3 := hide h3
      clear h1 h3 hw4 hd0 hf0 HF HE
      have hs2 : s < 2 ^ L.length := by rw [HN.out]; exact hlt
      obtain ⟨fst, rest, hfst⟩ := List.exists_cons_of_ne_nil (l := memN s L.length) (fun e => elems_ne hs0 hs2 (by rw [elems_members, e]; rfl))
      have hmem : fst ∈ memN s L.length := by rw [hfst]; exact List.mem_cons_self ..
      obtain ⟨hfl, hfb⟩ := memN_mem.1 hmem
      refine (membersOf_any s L.length _ hs2 (by omega)).mono ?_; rintro e w5 ⟨Am, cm, rfl, hown, hb5⟩
      have hm0 : memI s L.length = (fst : Int) :: rest.map (fun x : Nat => (x : Int)) := by unfold memI; rw [hfst]; rfl
      rw [hm0] at hown ⊢
      obtain ⟨bm, offm, rfl, hbm, em⟩ := RI.at_ (Rds.of_own hown) (k := 0) (by simp)
      simp only [List.getElem_cons_zero, Nat.add_zero] at em
      have HB := hide (H1.out.ext hb5)
      have HE := hide (H3.out.trans hb5)
      have HFB := hide hfb
      have HLX := hide (List.getElem?_eq_getElem hfl)
      clear hs2 hfst hmem hfb hm0 hown hb5 H1 H3
      go_wp2_with fail
      clear em hbm
      have HU : Hid (∀ t, t < s → MinFir costOne (elems L t) ((fun k => if k = s then 1073741824 else f k) t)) := hide (fun t ht => by dsimp only; rw [if_neg (by omega)]; exact hT.out t ht)
      have HS0 := hide (RunF.start costOne L s fst L[fst] (fun k => if k = s then 1073741824 else f k))
      clear hT
      go_loopw [8] (fun i wi => ∃ p : Nat, p ≤ s ∧ Hid (p &&& s = p) ∧ i = .int .i64 p ∧ (∃ f v, Blk wi w.heap.size 3 (rowOf N f) ∧ Hid (f s = v) ∧ Hid (∀ t, t < s → MinFir costOne (elems L t) (f t)) ∧ Hid (RunF costOne L s fst p L[fst] f v)) ∧ Ext w wi) (fun i _ => (intOf i).toNat)
      case atStart => exact ⟨s, Nat.le_refl _, hide (Nat.and_self s), rfl, ⟨_, _, HB.out, hide (if_pos rfl), HU, HS0⟩, HE.out⟩
      case round =>
        obtain ⟨p, hps, hpp, rfl, ⟨f, v, hf, hfs, hT, hrun⟩, hE⟩ := hrel
        have HF := hide hf
        have HE := hide hE
        have hzr : w.heap.size < wr.heap.size := hf.lt
        clear hf HB HU HS0
        by_cases hp0 : 0 < p
        · have HNX := hide (show bits .and .i64 ((p : Int) - 1) (s : Int) = (((p - 1) &&& s : Nat) : Int) by
            have e : ((p : Int) - 1) = ((p - 1 : Nat) : Int) := by omega
            rw [e]
            exact i64_and _ _ (by omega) (by omega))
          have hnl : (p - 1) &&& s < p := Nat.lt_of_le_of_lt Nat.and_le_left (by omega)
          have HNS := hide (sub_prev s p)
          by_cases hb : p.testBit fst = true
          · have HBV := hide (show bits .and .i64 ((p : Int) / 2 ^ fst) 1 = 1 by rw [bit_at p fst (by omega), if_pos hb])
            obtain ⟨t, ht⟩ : ∃ t, s ^^^ p = t := ⟨_, rfl⟩
            have hts : t < s := by rw [← ht]; exact xor_less hpp.out hp0
            have HX := hide ht
            have HAN := hide (show bits .andNot .i64 (s : Int) (p : Int) = (t : Int) by
              rw [i64_andNot s p (by omega) (by omega), Nat.and_comm s p, hpp.out, ht])
            clear ht
            have hmt := hT.out t hts
            have bd := hmt.bound (Nat.le_trans (elems_length L t) hl) (elems_all HRM.out t) (elems_all HC.out t)
            obtain ⟨ft, hft⟩ : ∃ u, f t = u := ⟨_, rfl⟩
            rw [hft] at bd
            have HFT := hide hft
            clear hft
            obtain ⟨q1, hq1⟩ : ∃ q, L[fst].1 = q := ⟨_, rfl⟩
            obtain ⟨q2, hq2⟩ : ∃ q, L[fst].2.1 = q := ⟨_, rfl⟩
            obtain ⟨q3, hq3⟩ : ∃ q, L[fst].2.2 = q := ⟨_, rfl⟩
            have hq24 := HL.out _ (List.getElem_mem hfl)
            rw [hq2] at hq24
            have hq240 : 1 ≤ q2 := hq24.2.2.1
            have hq241 : q2 ≤ 24 := hq24.2.2.2.1
            have HQ1 := hide hq1
            have HQ2 := hide hq2
            have HQ3 := hide hq3
            have HCV := hide (show costOne (L[fst].1, L[fst].2.1) = 1 by first | rfl | exact hq2)
            clear hq1 hq2 hq3 hq24 hmt
            obtain ⟨b0, off, rfl, hb0, e0, e1, e2⟩ := R3.at_ (HR.out.ext hE) hfl
            clear hE
            rw [HQ1.out] at e0
            rw [HQ2.out] at e1
            rw [HQ3.out] at e2
            have d1 : wr.cell? ⟨w.heap.size, t, none⟩ = some (.int .i64 ft) := (HF.out.cell t).trans (by rw [rowOf_get _ (by omega), HFT.out])
            have d2 : wr.cell? ⟨w.heap.size, s, none⟩ = some (.int .i64 v) := (HF.out.cell s).trans (by rw [rowOf_get _ hlt, hfs.out])
            have HY := hide (show IntKind.i64.wrap (ft + 1) = ft + 1 from IntWalk.i64_in _ (by omega))
            have hzb : w.heap.size < wr.heap.size := HF.out.lt
            have htN : t < N := by omega
            have bd1 := bd.1
            have bd2 := bd.2
            clear bd
            by_cases hge : v ≤ ft + 1
            · have HS := hide (hrun.out.skip hpp.out (fun _ => by rw [HX.out, HFT.out, HCV.out]; exact hge))
              have hbv := HBV.out
              have han := HAN.out
              have hy := HY.out
              go_wp2_with fail
              apply wp_region_RL 25 131 (by kernel_rfl) (by kernel_rfl) (by kernel_rfl) (by kernel_rfl) (by kernel_rfl) (by kernel_rfl) rfl [fun v _ => v = _, fun v _ => v = _, fun v _ => v = _, fun v _ => v = _, fun v _ => v = _, fun v _ => v = _, fun v _ => v = _, fun v _ => v = _, fun v _ => v = _, fun v _ => v = _, fun v _ => v = _, fun v _ => v = _, fun v _ => v = _, fun v _ => v = _, fun v _ => v = _, fun v _ => v = _, fun v _ => v = _, fun v _ => v = _, fun v _ => v = _, fun v _ => v = _, fun v _ => v = _, fun v _ => v = _, fun v _ => v = _, fun v _ => v = _, fun v _ => v = _] rfl ⟨stab_eq _, stab_eq _, stab_eq _, stab_eq _, stab_eq _, stab_eq _, stab_eq _, stab_eq _, stab_eq _, stab_eq _, stab_eq _, stab_eq _, stab_eq _, stab_eq _, stab_eq _, stab_eq _, stab_eq _, stab_eq _, stab_eq _, stab_eq _, stab_eq _, stab_eq _, stab_eq _, stab_eq _, stab_eq _, trivial⟩ ?XAhop ?XAfin
              case XAhop =>
                intro a w' hE hA
                have hc := hE.facts.1
                have hz := hE.facts.2.2
                refine ⟨⟨⟨⟨⟨⟨⟨⟨⟨⟨⟨⟨⟨⟨⟨⟨⟨⟨⟨⟨⟨⟨⟨⟨⟨trivial, ?_⟩, ?_⟩, ?_⟩, ?_⟩, ?_⟩, ?_⟩, ?_⟩, ?_⟩, ?_⟩, ?_⟩, ?_⟩, ?_⟩, ?_⟩, ?_⟩, ?_⟩, ?_⟩, ?_⟩, ?_⟩, ?_⟩, ?_⟩, ?_⟩, ?_⟩, ?_⟩, ?_⟩, ?_⟩
                · intro hp
                  have s8 := hA 8 (by rfl)
                  simp [sl] at s8
                  clear hp
                  refine wpOp_of_list rfl rfl ?_
                  go_wp2_with (first | (go_at_call 16; refine (costOne_any _ _ _ _).mono ?_; rintro e w8 ⟨rfl, hb8⟩))
                  exact ⟨_, rfl, rfl, (by repeat (first | exact kE | exact Ext.refl _ | apply Ext.alloc | apply Ext.drewN | apply Ext.drew | apply Ext.set0 | apply Ext.set1 | apply Ext.set2 | apply Ext.set3 | (refine Ext.setk ?_ (by omega) _) | (apply Ext.snoc; assumption)))⟩
                · intro hp
                  have s7 := hA 7 (by rfl)
                  simp [sl] at s7
                  clear hp
                  refine wpOp_of_list rfl rfl ?_
                  go_wp2_with (first | (go_at_call 16; refine (costOne_any _ _ _ _).mono ?_; rintro e w8 ⟨rfl, hb8⟩))
                  exact ⟨_, rfl, rfl, (by repeat (first | exact kE | exact Ext.refl _ | apply Ext.alloc | apply Ext.drewN | apply Ext.drew | apply Ext.set0 | apply Ext.set1 | apply Ext.set2 | apply Ext.set3 | (refine Ext.setk ?_ (by omega) _) | (apply Ext.snoc; assumption)))⟩
                · intro hp
                  have s37 := hp 0 (by rfl)
                  change a.tmps.getD 37 undef = _ at s37
                  simp at s37
                  have s38 := hp 1 (by rfl)
                  change a.tmps.getD 38 undef = _ at s38
                  simp at s38
                  clear hp
                  refine wpOp_of_list rfl rfl ?_
                  go_wp2_with (first | (go_at_call 16; refine (costOne_any _ _ _ _).mono ?_; rintro e w8 ⟨rfl, hb8⟩))
                  exact ⟨_, rfl, rfl, (by repeat (first | exact kE | exact Ext.refl _ | apply Ext.alloc | apply Ext.drewN | apply Ext.drew | apply Ext.set0 | apply Ext.set1 | apply Ext.set2 | apply Ext.set3 | (refine Ext.setk ?_ (by omega) _) | (apply Ext.snoc; assumption)))⟩
                · intro hp
                  have s39 := hp 2 (by rfl)
                  change a.tmps.getD 39 undef = _ at s39
                  simp at s39
                  clear hp
                  refine wpOp_of_list rfl rfl ?_
                  go_wp2_with (first | (go_at_call 16; refine (costOne_any _ _ _ _).mono ?_; rintro e w8 ⟨rfl, hb8⟩))
                  exact ⟨_, rfl, rfl, (by repeat (first | exact kE | exact Ext.refl _ | apply Ext.alloc | apply Ext.drewN | apply Ext.drew | apply Ext.set0 | apply Ext.set1 | apply Ext.set2 | apply Ext.set3 | (refine Ext.setk ?_ (by omega) _) | (apply Ext.snoc; assumption)))⟩
                · intro hp
                  have s40 := hp 3 (by rfl)
                  change a.tmps.getD 40 undef = _ at s40
                  simp at s40
                  clear hp
                  refine wpOp_of_list rfl rfl ?_
                  go_wp2_with (first | (go_at_call 16; refine (costOne_any _ _ _ _).mono ?_; rintro e w8 ⟨rfl, hb8⟩))
                  exact ⟨_, rfl, rfl, (by repeat (first | exact kE | exact Ext.refl _ | apply Ext.alloc | apply Ext.drewN | apply Ext.drew | apply Ext.set0 | apply Ext.set1 | apply Ext.set2 | apply Ext.set3 | (refine Ext.setk ?_ (by omega) _) | (apply Ext.snoc; assumption)))⟩
                · intro hp
                  have s41 := hp 4 (by rfl)
                  change a.tmps.getD 41 undef = _ at s41
                  simp at s41
                  clear hp
                  refine wpOp_of_list rfl rfl ?_
                  go_wp2_with (first | (go_at_call 16; refine (costOne_any _ _ _ _).mono ?_; rintro e w8 ⟨rfl, hb8⟩))
                  exact ⟨_, rfl, rfl, (by repeat (first | exact kE | exact Ext.refl _ | apply Ext.alloc | apply Ext.drewN | apply Ext.drew | apply Ext.set0 | apply Ext.set1 | apply Ext.set2 | apply Ext.set3 | (refine Ext.setk ?_ (by omega) _) | (apply Ext.snoc; assumption)))⟩
                · intro hp
                  have s5 := hA 5 (by rfl)
                  simp [sl] at s5
                  have s42 := hp 5 (by rfl)
                  change a.tmps.getD 42 undef = _ at s42
                  simp at s42
                  have sg := hp 5 (by rfl)
                  clear hp
                  refine wpOp_on rfl (wanted_yes rfl (yielded_at rfl sg) rfl) ?_
                  clear sg
                  dsimp only
                  go_wp2_with (first | (go_at_call 16; refine (costOne_any _ _ _ _).mono ?_; rintro e w8 ⟨rfl, hb8⟩))
                  exact ⟨_, rfl, rfl, (by repeat (first | exact kE | exact Ext.refl _ | apply Ext.alloc | apply Ext.drewN | apply Ext.drew | apply Ext.set0 | apply Ext.set1 | apply Ext.set2 | apply Ext.set3 | (refine Ext.setk ?_ (by omega) _) | (apply Ext.snoc; assumption)))⟩
                · intro hp
                  have s6 := hA 6 (by rfl)
                  simp [sl] at s6
                  have s42 := hp 5 (by rfl)
                  change a.tmps.getD 42 undef = _ at s42
                  simp at s42
                  have sg := hp 5 (by rfl)
                  clear hp
                  refine wpOp_on rfl (wanted_yes rfl (yielded_at rfl sg) rfl) ?_
                  clear sg
                  dsimp only
                  go_wp2_with (first | (go_at_call 16; refine (costOne_any _ _ _ _).mono ?_; rintro e w8 ⟨rfl, hb8⟩))
                  exact ⟨_, rfl, rfl, (by repeat (first | exact kE | exact Ext.refl _ | apply Ext.alloc | apply Ext.drewN | apply Ext.drew | apply Ext.set0 | apply Ext.set1 | apply Ext.set2 | apply Ext.set3 | (refine Ext.setk ?_ (by omega) _) | (apply Ext.snoc; assumption)))⟩
                · intro hp
                  have s8 := hA 8 (by rfl)
                  simp [sl] at s8
                  have s42 := hp 5 (by rfl)
                  change a.tmps.getD 42 undef = _ at s42
                  simp at s42
                  have sg := hp 5 (by rfl)
                  clear hp
                  refine wpOp_on rfl (wanted_yes rfl (yielded_at rfl sg) rfl) ?_
                  clear sg
                  dsimp only
                  go_wp2_with (first | (go_at_call 16; refine (costOne_any _ _ _ _).mono ?_; rintro e w8 ⟨rfl, hb8⟩))
                  exact ⟨_, rfl, rfl, (by repeat (first | exact kE | exact Ext.refl _ | apply Ext.alloc | apply Ext.drewN | apply Ext.drew | apply Ext.set0 | apply Ext.set1 | apply Ext.set2 | apply Ext.set3 | (refine Ext.setk ?_ (by omega) _) | (apply Ext.snoc; assumption)))⟩
                · intro hp
                  have s42 := hp 5 (by rfl)
                  change a.tmps.getD 42 undef = _ at s42
                  simp at s42
                  have s44 := hp 7 (by rfl)
                  change a.tmps.getD 44 undef = _ at s44
                  simp at s44
                  have s45 := hp 8 (by rfl)
                  change a.tmps.getD 45 undef = _ at s45
                  simp at s45
                  have sg := hp 5 (by rfl)
                  clear hp
                  refine wpOp_on rfl (wanted_yes rfl (yielded_at rfl sg) rfl) ?_
                  clear sg
                  dsimp only
                  go_wp2_with (first | (go_at_call 16; refine (costOne_any _ _ _ _).mono ?_; rintro e w8 ⟨rfl, hb8⟩))
                  exact ⟨_, rfl, rfl, (by repeat (first | exact kE | exact Ext.refl _ | apply Ext.alloc | apply Ext.drewN | apply Ext.drew | apply Ext.set0 | apply Ext.set1 | apply Ext.set2 | apply Ext.set3 | (refine Ext.setk ?_ (by omega) _) | (apply Ext.snoc; assumption)))⟩
                · intro hp
                  have s42 := hp 5 (by rfl)
                  change a.tmps.getD 42 undef = _ at s42
                  simp at s42
                  have s43 := hp 6 (by rfl)
                  change a.tmps.getD 43 undef = _ at s43
                  simp at s43
                  have s46 := hp 9 (by rfl)
                  change a.tmps.getD 46 undef = _ at s46
                  simp at s46
                  have sg := hp 5 (by rfl)
                  clear hp
                  refine wpOp_on rfl (wanted_yes rfl (yielded_at rfl sg) rfl) ?_
                  clear sg
                  dsimp only
                  go_wp2_with (first | (go_at_call 16; refine (costOne_any _ _ _ _).mono ?_; rintro e w8 ⟨rfl, hb8⟩))
                  exact ⟨_, rfl, rfl, (by repeat (first | exact kE | exact Ext.refl _ | apply Ext.alloc | apply Ext.drewN | apply Ext.drew | apply Ext.set0 | apply Ext.set1 | apply Ext.set2 | apply Ext.set3 | (refine Ext.setk ?_ (by omega) _) | (apply Ext.snoc; assumption)))⟩
                · intro hp
                  have s42 := hp 5 (by rfl)
                  change a.tmps.getD 42 undef = _ at s42
                  simp at s42
                  have s47 := hp 10 (by rfl)
                  change a.tmps.getD 47 undef = _ at s47
                  simp at s47
                  have sg := hp 5 (by rfl)
                  clear hp
                  refine wpOp_on rfl (wanted_yes rfl (yielded_at rfl sg) rfl) ?_
                  clear sg
                  dsimp only
                  go_wp2_with (first | (go_at_call 16; refine (costOne_any _ _ _ _).mono ?_; rintro e w8 ⟨rfl, hb8⟩))
                  exact ⟨_, rfl, rfl, (by repeat (first | exact kE | exact Ext.refl _ | apply Ext.alloc | apply Ext.drewN | apply Ext.drew | apply Ext.set0 | apply Ext.set1 | apply Ext.set2 | apply Ext.set3 | (refine Ext.setk ?_ (by omega) _) | (apply Ext.snoc; assumption)))⟩
                · intro hp
                  have s1 := hA 1 (by rfl)
                  simp [sl] at s1
                  have s42 := hp 5 (by rfl)
                  change a.tmps.getD 42 undef = _ at s42
                  simp at s42
                  have sg := hp 5 (by rfl)
                  clear hp
                  refine wpOp_on rfl (wanted_yes rfl (yielded_at rfl sg) rfl) ?_
                  clear sg
                  dsimp only
                  go_wp2_with (first | (go_at_call 16; refine (costOne_any _ _ _ _).mono ?_; rintro e w8 ⟨rfl, hb8⟩))
                  exact ⟨_, rfl, rfl, (by repeat (first | exact kE | exact Ext.refl _ | apply Ext.alloc | apply Ext.drewN | apply Ext.drew | apply Ext.set0 | apply Ext.set1 | apply Ext.set2 | apply Ext.set3 | (refine Ext.setk ?_ (by omega) _) | (apply Ext.snoc; assumption)))⟩
                · intro hp
                  have s0 := hA 0 (by rfl)
                  simp [sl] at s0
                  have s42 := hp 5 (by rfl)
                  change a.tmps.getD 42 undef = _ at s42
                  simp at s42
                  have sg := hp 5 (by rfl)
                  clear hp
                  refine wpOp_on rfl (wanted_yes rfl (yielded_at rfl sg) rfl) ?_
                  clear sg
                  dsimp only
                  go_wp2_with (first | (go_at_call 16; refine (costOne_any _ _ _ _).mono ?_; rintro e w8 ⟨rfl, hb8⟩))
                  exact ⟨_, rfl, rfl, (by repeat (first | exact kE | exact Ext.refl _ | apply Ext.alloc | apply Ext.drewN | apply Ext.drew | apply Ext.set0 | apply Ext.set1 | apply Ext.set2 | apply Ext.set3 | (refine Ext.setk ?_ (by omega) _) | (apply Ext.snoc; assumption)))⟩
                · intro hp
                  have s7 := hA 7 (by rfl)
                  simp [sl] at s7
                  have s42 := hp 5 (by rfl)
                  change a.tmps.getD 42 undef = _ at s42
                  simp at s42
                  have sg := hp 5 (by rfl)
                  clear hp
                  refine wpOp_on rfl (wanted_yes rfl (yielded_at rfl sg) rfl) ?_
                  clear sg
                  dsimp only
                  go_wp2_with (first | (go_at_call 16; refine (costOne_any _ _ _ _).mono ?_; rintro e w8 ⟨rfl, hb8⟩))
                  exact ⟨_, rfl, rfl, (by repeat (first | exact kE | exact Ext.refl _ | apply Ext.alloc | apply Ext.drewN | apply Ext.drew | apply Ext.set0 | apply Ext.set1 | apply Ext.set2 | apply Ext.set3 | (refine Ext.setk ?_ (by omega) _) | (apply Ext.snoc; assumption)))⟩
                · intro hp
                  have s42 := hp 5 (by rfl)
                  change a.tmps.getD 42 undef = _ at s42
                  simp at s42
                  have s50 := hp 13 (by rfl)
                  change a.tmps.getD 50 undef = _ at s50
                  simp at s50
                  have s51 := hp 14 (by rfl)
                  change a.tmps.getD 51 undef = _ at s51
                  simp at s51
                  have sg := hp 5 (by rfl)
                  clear hp
                  refine wpOp_on rfl (wanted_yes rfl (yielded_at rfl sg) rfl) ?_
                  clear sg
                  dsimp only
                  go_wp2_with (first | (go_at_call 16; refine (costOne_any _ _ _ _).mono ?_; rintro e w8 ⟨rfl, hb8⟩))
                  exact ⟨_, rfl, rfl, (by repeat (first | exact kE | exact Ext.refl _ | apply Ext.alloc | apply Ext.drewN | apply Ext.drew | apply Ext.set0 | apply Ext.set1 | apply Ext.set2 | apply Ext.set3 | (refine Ext.setk ?_ (by omega) _) | (apply Ext.snoc; assumption)))⟩
                · intro hp
                  have s42 := hp 5 (by rfl)
                  change a.tmps.getD 42 undef = _ at s42
                  simp at s42
                  have s52 := hp 15 (by rfl)
                  change a.tmps.getD 52 undef = _ at s52
                  simp at s52
                  have sg := hp 5 (by rfl)
                  clear hp
                  refine wpOp_on rfl (wanted_yes rfl (yielded_at rfl sg) rfl) ?_
                  clear sg
                  dsimp only
                  go_wp2_with (first | (go_at_call 16; refine (costOne_any _ _ _ _).mono ?_; rintro e w8 ⟨rfl, hb8⟩))
                  exact ⟨_, rfl, rfl, (by repeat (first | exact kE | exact Ext.refl _ | apply Ext.alloc | apply Ext.drewN | apply Ext.drew | apply Ext.set0 | apply Ext.set1 | apply Ext.set2 | apply Ext.set3 | (refine Ext.setk ?_ (by omega) _) | (apply Ext.snoc; assumption)))⟩
                · intro hp
                  have s42 := hp 5 (by rfl)
                  change a.tmps.getD 42 undef = _ at s42
                  simp at s42
                  have s49 := hp 12 (by rfl)
                  change a.tmps.getD 49 undef = _ at s49
                  simp at s49
                  have s53 := hp 16 (by rfl)
                  change a.tmps.getD 53 undef = _ at s53
                  simp at s53
                  have sg := hp 5 (by rfl)
                  clear hp
                  refine wpOp_on rfl (wanted_yes rfl (yielded_at rfl sg) rfl) ?_
                  clear sg
                  dsimp only
                  go_wp2_with (first | (go_at_call 16; refine (costOne_any _ _ _ _).mono ?_; rintro e w8 ⟨rfl, hb8⟩))
                  exact ⟨_, rfl, rfl, (by repeat (first | exact kE | exact Ext.refl _ | apply Ext.alloc | apply Ext.drewN | apply Ext.drew | apply Ext.set0 | apply Ext.set1 | apply Ext.set2 | apply Ext.set3 | (refine Ext.setk ?_ (by omega) _) | (apply Ext.snoc; assumption)))⟩
                · intro hp
                  have s42 := hp 5 (by rfl)
                  change a.tmps.getD 42 undef = _ at s42
                  simp at s42
                  have s48 := hp 11 (by rfl)
                  change a.tmps.getD 48 undef = _ at s48
                  simp at s48
                  have s54 := hp 17 (by rfl)
                  change a.tmps.getD 54 undef = _ at s54
                  simp at s54
                  have sg := hp 5 (by rfl)
                  clear hp
                  refine wpOp_on rfl (wanted_yes rfl (yielded_at rfl sg) rfl) ?_
                  clear sg
                  dsimp only
                  go_wp2_with (first | (go_at_call 16; refine (costOne_any _ _ _ _).mono ?_; rintro e w8 ⟨rfl, hb8⟩))
                  exact ⟨_, rfl, rfl, (by repeat (first | exact kE | exact Ext.refl _ | apply Ext.alloc | apply Ext.drewN | apply Ext.drew | apply Ext.set0 | apply Ext.set1 | apply Ext.set2 | apply Ext.set3 | (refine Ext.setk ?_ (by omega) _) | (apply Ext.snoc; assumption)))⟩
                · intro hp
                  have s5 := hA 5 (by rfl)
                  simp [sl] at s5
                  have s42 := hp 5 (by rfl)
                  change a.tmps.getD 42 undef = _ at s42
                  simp at s42
                  have sg := hp 5 (by rfl)
                  clear hp
                  refine wpOp_on rfl (wanted_yes rfl (yielded_at rfl sg) rfl) ?_
                  clear sg
                  dsimp only
                  go_wp2_with (first | (go_at_call 16; refine (costOne_any _ _ _ _).mono ?_; rintro e w8 ⟨rfl, hb8⟩))
                  exact ⟨_, rfl, rfl, (by repeat (first | exact kE | exact Ext.refl _ | apply Ext.alloc | apply Ext.drewN | apply Ext.drew | apply Ext.set0 | apply Ext.set1 | apply Ext.set2 | apply Ext.set3 | (refine Ext.setk ?_ (by omega) _) | (apply Ext.snoc; assumption)))⟩
                · intro hp
                  have s6 := hA 6 (by rfl)
                  simp [sl] at s6
                  have s42 := hp 5 (by rfl)
                  change a.tmps.getD 42 undef = _ at s42
                  simp at s42
                  have sg := hp 5 (by rfl)
                  clear hp
                  refine wpOp_on rfl (wanted_yes rfl (yielded_at rfl sg) rfl) ?_
                  clear sg
                  dsimp only
                  go_wp2_with (first | (go_at_call 16; refine (costOne_any _ _ _ _).mono ?_; rintro e w8 ⟨rfl, hb8⟩))
                  exact ⟨_, rfl, rfl, (by repeat (first | exact kE | exact Ext.refl _ | apply Ext.alloc | apply Ext.drewN | apply Ext.drew | apply Ext.set0 | apply Ext.set1 | apply Ext.set2 | apply Ext.set3 | (refine Ext.setk ?_ (by omega) _) | (apply Ext.snoc; assumption)))⟩
                · intro hp
                  have s42 := hp 5 (by rfl)
                  change a.tmps.getD 42 undef = _ at s42
                  simp at s42
                  have s56 := hp 19 (by rfl)
                  change a.tmps.getD 56 undef = _ at s56
                  simp at s56
                  have s57 := hp 20 (by rfl)
                  change a.tmps.getD 57 undef = _ at s57
                  simp at s57
                  have sg := hp 5 (by rfl)
                  clear hp
                  refine wpOp_on rfl (wanted_yes rfl (yielded_at rfl sg) rfl) ?_
                  clear sg
                  dsimp only
                  go_wp2_with (first | (go_at_call 16; refine (costOne_any _ _ _ _).mono ?_; rintro e w8 ⟨rfl, hb8⟩))
                  exact ⟨_, rfl, rfl, (by repeat (first | exact kE | exact Ext.refl _ | apply Ext.alloc | apply Ext.drewN | apply Ext.drew | apply Ext.set0 | apply Ext.set1 | apply Ext.set2 | apply Ext.set3 | (refine Ext.setk ?_ (by omega) _) | (apply Ext.snoc; assumption)))⟩
                · intro hp
                  have s42 := hp 5 (by rfl)
                  change a.tmps.getD 42 undef = _ at s42
                  simp at s42
                  have s58 := hp 21 (by rfl)
                  change a.tmps.getD 58 undef = _ at s58
                  simp at s58
                  have sg := hp 5 (by rfl)
                  clear hp
                  refine wpOp_on rfl (wanted_yes rfl (yielded_at rfl sg) rfl) ?_
                  clear sg
                  dsimp only
                  go_wp2_with (first | (go_at_call 16; refine (costOne_any _ _ _ _).mono ?_; rintro e w8 ⟨rfl, hb8⟩))
                  exact ⟨_, rfl, rfl, (by repeat (first | exact kE | exact Ext.refl _ | apply Ext.alloc | apply Ext.drewN | apply Ext.drew | apply Ext.set0 | apply Ext.set1 | apply Ext.set2 | apply Ext.set3 | (refine Ext.setk ?_ (by omega) _) | (apply Ext.snoc; assumption)))⟩
                · intro hp
                  have s42 := hp 5 (by rfl)
                  change a.tmps.getD 42 undef = _ at s42
                  simp at s42
                  have s55 := hp 18 (by rfl)
                  change a.tmps.getD 55 undef = _ at s55
                  simp at s55
                  have s59 := hp 22 (by rfl)
                  change a.tmps.getD 59 undef = _ at s59
                  simp at s59
                  have sg := hp 5 (by rfl)
                  clear hp
                  refine wpOp_on rfl (wanted_yes rfl (yielded_at rfl sg) rfl) ?_
                  clear sg
                  dsimp only
                  go_wp2_with (first | (go_at_call 16; refine (costOne_any _ _ _ _).mono ?_; rintro e w8 ⟨rfl, hb8⟩))
                  exact ⟨_, rfl, rfl, (by repeat (first | exact kE | exact Ext.refl _ | apply Ext.alloc | apply Ext.drewN | apply Ext.drew | apply Ext.set0 | apply Ext.set1 | apply Ext.set2 | apply Ext.set3 | (refine Ext.setk ?_ (by omega) _) | (apply Ext.snoc; assumption)))⟩
                · intro hp
                  have s42 := hp 5 (by rfl)
                  change a.tmps.getD 42 undef = _ at s42
                  simp at s42
                  have s60 := hp 23 (by rfl)
                  change a.tmps.getD 60 undef = _ at s60
                  simp at s60
                  clear hp
                  refine wpOp_of_list rfl rfl ?_
                  go_wp2_with (first | (go_at_call 16; refine (costOne_any _ _ _ _).mono ?_; rintro e w8 ⟨rfl, hb8⟩))
                  exact ⟨_, rfl, rfl, (by repeat (first | exact kE | exact Ext.refl _ | apply Ext.alloc | apply Ext.drewN | apply Ext.drew | apply Ext.set0 | apply Ext.set1 | apply Ext.set2 | apply Ext.set3 | (refine Ext.setk ?_ (by omega) _) | (apply Ext.snoc; assumption)))⟩
              case XAfin =>
                intro X w7 hE7 hp
                obtain ⟨⟨⟨⟨⟨⟨⟨⟨⟨⟨⟨⟨⟨⟨⟨⟨⟨⟨⟨⟨⟨⟨⟨⟨⟨_, h0⟩, h1⟩, h2⟩, h3⟩, h4⟩, h5⟩, h6⟩, h7⟩, h8⟩, h9⟩, h10⟩, h11⟩, h12⟩, h13⟩, h14⟩, h15⟩, h16⟩, h17⟩, h18⟩, h19⟩, h20⟩, h21⟩, h22⟩, h23⟩, h24⟩ := hp
                change X 0 = _ at h0
                change X 1 = _ at h1
                change X 2 = _ at h2
                change X 3 = _ at h3
                change X 4 = _ at h4
                change X 5 = _ at h5
                change X 6 = _ at h6
                change X 7 = _ at h7
                change X 8 = _ at h8
                change X 9 = _ at h9
                change X 10 = _ at h10
                change X 11 = _ at h11
                change X 12 = _ at h12
                change X 13 = _ at h13
                change X 14 = _ at h14
                change X 15 = _ at h15
                change X 16 = _ at h16
                change X 17 = _ at h17
                change X 18 = _ at h18
                change X 19 = _ at h19
                change X 20 = _ at h20
                change X 21 = _ at h21
                change X 22 = _ at h22
                change X 23 = _ at h23
                change X 24 = _ at h24
                simp only [List.drop_succ_cons, List.drop_nil]
                refine wpList_nil ?_
                go_simp
                have HF7 := hide (HF.out.ext hE7)
                have HE7 := hide (HE.out.trans hE7)
                clear hbv han hy hE7 e0 e1 e2 d1 d2 hge
                have hnx := HNX.out
                go_wp2_with fail
                clear hnx
                go_roundw
                case rel => exact ⟨(p - 1) &&& s, by omega, hide HNS.out, (by first | rfl | rw [HNX.out]), ⟨f, v, HF7.out, hfs, hT, HS⟩, HE7.out⟩
                case measure => (try rw [HNX.out]); simp [intOf]; omega
            · have hge' : ft + 1 < v := by omega
              clear hge
              have hbv := HBV.out
              have han := HAN.out
              have hy := HY.out
              go_wp2_with fail
              apply wp_region_RL 25 131 (by kernel_rfl) (by kernel_rfl) (by kernel_rfl) (by kernel_rfl) (by kernel_rfl) (by kernel_rfl) rfl [fun v _ => v = _, fun v _ => v = _, fun v _ => v = _, fun v _ => v = _, fun v _ => v = _, fun v _ => v = _, fun v _ => v = _, fun v _ => v = _, fun v _ => v = _, fun v _ => v = _, fun v _ => v = _, fun v _ => v = _, fun v _ => v = _, fun v _ => v = _, fun v _ => v = _, fun v _ => v = _, fun v _ => v = _, fun v _ => v = _, fun v _ => v = _, fun v _ => v = _, fun v _ => v = _, fun v _ => v = _, fun v _ => v = _, fun v _ => v = _, fun v _ => v = _] rfl ⟨stab_eq _, stab_eq _, stab_eq _, stab_eq _, stab_eq _, stab_eq _, stab_eq _, stab_eq _, stab_eq _, stab_eq _, stab_eq _, stab_eq _, stab_eq _, stab_eq _, stab_eq _, stab_eq _, stab_eq _, stab_eq _, stab_eq _, stab_eq _, stab_eq _, stab_eq _, stab_eq _, stab_eq _, stab_eq _, trivial⟩ ?XBhop ?XBfin
              case XBhop =>
                intro a w' hE hA
                have hc := hE.facts.1
                have hz := hE.facts.2.2
                refine ⟨⟨⟨⟨⟨⟨⟨⟨⟨⟨⟨⟨⟨⟨⟨⟨⟨⟨⟨⟨⟨⟨⟨⟨⟨trivial, ?_⟩, ?_⟩, ?_⟩, ?_⟩, ?_⟩, ?_⟩, ?_⟩, ?_⟩, ?_⟩, ?_⟩, ?_⟩, ?_⟩, ?_⟩, ?_⟩, ?_⟩, ?_⟩, ?_⟩, ?_⟩, ?_⟩, ?_⟩, ?_⟩, ?_⟩, ?_⟩, ?_⟩, ?_⟩
                · intro hp
                  have s8 := hA 8 (by rfl)
                  simp [sl] at s8
                  clear hp
                  refine wpOp_of_list rfl rfl ?_
                  go_wp2_with (first | (go_at_call 16; refine (costOne_any _ _ _ _).mono ?_; rintro e w8 ⟨rfl, hb8⟩))
                  exact ⟨_, rfl, rfl, (by repeat (first | exact kE | exact Ext.refl _ | apply Ext.alloc | apply Ext.drewN | apply Ext.drew | apply Ext.set0 | apply Ext.set1 | apply Ext.set2 | apply Ext.set3 | (refine Ext.setk ?_ (by omega) _) | (apply Ext.snoc; assumption)))⟩
                · intro hp
                  have s7 := hA 7 (by rfl)
                  simp [sl] at s7
                  clear hp
                  refine wpOp_of_list rfl rfl ?_
                  go_wp2_with (first | (go_at_call 16; refine (costOne_any _ _ _ _).mono ?_; rintro e w8 ⟨rfl, hb8⟩))
                  exact ⟨_, rfl, rfl, (by repeat (first | exact kE | exact Ext.refl _ | apply Ext.alloc | apply Ext.drewN | apply Ext.drew | apply Ext.set0 | apply Ext.set1 | apply Ext.set2 | apply Ext.set3 | (refine Ext.setk ?_ (by omega) _) | (apply Ext.snoc; assumption)))⟩
                · intro hp
                  have s37 := hp 0 (by rfl)
                  change a.tmps.getD 37 undef = _ at s37
                  simp at s37
                  have s38 := hp 1 (by rfl)
                  change a.tmps.getD 38 undef = _ at s38
                  simp at s38
                  clear hp
                  refine wpOp_of_list rfl rfl ?_
                  go_wp2_with (first | (go_at_call 16; refine (costOne_any _ _ _ _).mono ?_; rintro e w8 ⟨rfl, hb8⟩))
                  exact ⟨_, rfl, rfl, (by repeat (first | exact kE | exact Ext.refl _ | apply Ext.alloc | apply Ext.drewN | apply Ext.drew | apply Ext.set0 | apply Ext.set1 | apply Ext.set2 | apply Ext.set3 | (refine Ext.setk ?_ (by omega) _) | (apply Ext.snoc; assumption)))⟩
                · intro hp
                  have s39 := hp 2 (by rfl)
                  change a.tmps.getD 39 undef = _ at s39
                  simp at s39
                  clear hp
                  refine wpOp_of_list rfl rfl ?_
                  go_wp2_with (first | (go_at_call 16; refine (costOne_any _ _ _ _).mono ?_; rintro e w8 ⟨rfl, hb8⟩))
                  exact ⟨_, rfl, rfl, (by repeat (first | exact kE | exact Ext.refl _ | apply Ext.alloc | apply Ext.drewN | apply Ext.drew | apply Ext.set0 | apply Ext.set1 | apply Ext.set2 | apply Ext.set3 | (refine Ext.setk ?_ (by omega) _) | (apply Ext.snoc; assumption)))⟩
                · intro hp
                  have s40 := hp 3 (by rfl)
                  change a.tmps.getD 40 undef = _ at s40
                  simp at s40
                  clear hp
                  refine wpOp_of_list rfl rfl ?_
                  go_wp2_with (first | (go_at_call 16; refine (costOne_any _ _ _ _).mono ?_; rintro e w8 ⟨rfl, hb8⟩))
                  exact ⟨_, rfl, rfl, (by repeat (first | exact kE | exact Ext.refl _ | apply Ext.alloc | apply Ext.drewN | apply Ext.drew | apply Ext.set0 | apply Ext.set1 | apply Ext.set2 | apply Ext.set3 | (refine Ext.setk ?_ (by omega) _) | (apply Ext.snoc; assumption)))⟩
                · intro hp
                  have s41 := hp 4 (by rfl)
                  change a.tmps.getD 41 undef = _ at s41
                  simp at s41
                  clear hp
                  refine wpOp_of_list rfl rfl ?_
                  go_wp2_with (first | (go_at_call 16; refine (costOne_any _ _ _ _).mono ?_; rintro e w8 ⟨rfl, hb8⟩))
                  exact ⟨_, rfl, rfl, (by repeat (first | exact kE | exact Ext.refl _ | apply Ext.alloc | apply Ext.drewN | apply Ext.drew | apply Ext.set0 | apply Ext.set1 | apply Ext.set2 | apply Ext.set3 | (refine Ext.setk ?_ (by omega) _) | (apply Ext.snoc; assumption)))⟩
                · intro hp
                  have s5 := hA 5 (by rfl)
                  simp [sl] at s5
                  have s42 := hp 5 (by rfl)
                  change a.tmps.getD 42 undef = _ at s42
                  simp at s42
                  have sg := hp 5 (by rfl)
                  clear hp
                  refine wpOp_on rfl (wanted_yes rfl (yielded_at rfl sg) rfl) ?_
                  clear sg
                  dsimp only
                  go_wp2_with (first | (go_at_call 16; refine (costOne_any _ _ _ _).mono ?_; rintro e w8 ⟨rfl, hb8⟩))
                  exact ⟨_, rfl, rfl, (by repeat (first | exact kE | exact Ext.refl _ | apply Ext.alloc | apply Ext.drewN | apply Ext.drew | apply Ext.set0 | apply Ext.set1 | apply Ext.set2 | apply Ext.set3 | (refine Ext.setk ?_ (by omega) _) | (apply Ext.snoc; assumption)))⟩
                · intro hp
                  have s6 := hA 6 (by rfl)
                  simp [sl] at s6
                  have s42 := hp 5 (by rfl)
                  change a.tmps.getD 42 undef = _ at s42
                  simp at s42
                  have sg := hp 5 (by rfl)
                  clear hp
                  refine wpOp_on rfl (wanted_yes rfl (yielded_at rfl sg) rfl) ?_
                  clear sg
                  dsimp only
                  go_wp2_with (first | (go_at_call 16; refine (costOne_any _ _ _ _).mono ?_; rintro e w8 ⟨rfl, hb8⟩))
                  exact ⟨_, rfl, rfl, (by repeat (first | exact kE | exact Ext.refl _ | apply Ext.alloc | apply Ext.drewN | apply Ext.drew | apply Ext.set0 | apply Ext.set1 | apply Ext.set2 | apply Ext.set3 | (refine Ext.setk ?_ (by omega) _) | (apply Ext.snoc; assumption)))⟩
                · intro hp
                  have s8 := hA 8 (by rfl)
                  simp [sl] at s8
                  have s42 := hp 5 (by rfl)
                  change a.tmps.getD 42 undef = _ at s42
                  simp at s42
                  have sg := hp 5 (by rfl)
                  clear hp
                  refine wpOp_on rfl (wanted_yes rfl (yielded_at rfl sg) rfl) ?_
                  clear sg
                  dsimp only
                  go_wp2_with (first | (go_at_call 16; refine (costOne_any _ _ _ _).mono ?_; rintro e w8 ⟨rfl, hb8⟩))
                  exact ⟨_, rfl, rfl, (by repeat (first | exact kE | exact Ext.refl _ | apply Ext.alloc | apply Ext.drewN | apply Ext.drew | apply Ext.set0 | apply Ext.set1 | apply Ext.set2 | apply Ext.set3 | (refine Ext.setk ?_ (by omega) _) | (apply Ext.snoc; assumption)))⟩
                · intro hp
                  have s42 := hp 5 (by rfl)
                  change a.tmps.getD 42 undef = _ at s42
                  simp at s42
                  have s44 := hp 7 (by rfl)
                  change a.tmps.getD 44 undef = _ at s44
                  simp at s44
                  have s45 := hp 8 (by rfl)
                  change a.tmps.getD 45 undef = _ at s45
                  simp at s45
                  have sg := hp 5 (by rfl)
                  clear hp
                  refine wpOp_on rfl (wanted_yes rfl (yielded_at rfl sg) rfl) ?_
                  clear sg
                  dsimp only
                  go_wp2_with (first | (go_at_call 16; refine (costOne_any _ _ _ _).mono ?_; rintro e w8 ⟨rfl, hb8⟩))
                  exact ⟨_, rfl, rfl, (by repeat (first | exact kE | exact Ext.refl _ | apply Ext.alloc | apply Ext.drewN | apply Ext.drew | apply Ext.set0 | apply Ext.set1 | apply Ext.set2 | apply Ext.set3 | (refine Ext.setk ?_ (by omega) _) | (apply Ext.snoc; assumption)))⟩
                · intro hp
                  have s42 := hp 5 (by rfl)
                  change a.tmps.getD 42 undef = _ at s42
                  simp at s42
                  have s43 := hp 6 (by rfl)
                  change a.tmps.getD 43 undef = _ at s43
                  simp at s43
                  have s46 := hp 9 (by rfl)
                  change a.tmps.getD 46 undef = _ at s46
                  simp at s46
                  have sg := hp 5 (by rfl)
                  clear hp
                  refine wpOp_on rfl (wanted_yes rfl (yielded_at rfl sg) rfl) ?_
                  clear sg
                  dsimp only
                  go_wp2_with (first | (go_at_call 16; refine (costOne_any _ _ _ _).mono ?_; rintro e w8 ⟨rfl, hb8⟩))
                  exact ⟨_, rfl, rfl, (by repeat (first | exact kE | exact Ext.refl _ | apply Ext.alloc | apply Ext.drewN | apply Ext.drew | apply Ext.set0 | apply Ext.set1 | apply Ext.set2 | apply Ext.set3 | (refine Ext.setk ?_ (by omega) _) | (apply Ext.snoc; assumption)))⟩
                · intro hp
                  have s42 := hp 5 (by rfl)
                  change a.tmps.getD 42 undef = _ at s42
                  simp at s42
                  have s47 := hp 10 (by rfl)
                  change a.tmps.getD 47 undef = _ at s47
                  simp at s47
                  have sg := hp 5 (by rfl)
                  clear hp
                  refine wpOp_on rfl (wanted_yes rfl (yielded_at rfl sg) rfl) ?_
                  clear sg
                  dsimp only
                  go_wp2_with (first | (go_at_call 16; refine (costOne_any _ _ _ _).mono ?_; rintro e w8 ⟨rfl, hb8⟩))
                  exact ⟨_, rfl, rfl, (by repeat (first | exact kE | exact Ext.refl _ | apply Ext.alloc | apply Ext.drewN | apply Ext.drew | apply Ext.set0 | apply Ext.set1 | apply Ext.set2 | apply Ext.set3 | (refine Ext.setk ?_ (by omega) _) | (apply Ext.snoc; assumption)))⟩
                · intro hp
                  have s1 := hA 1 (by rfl)
                  simp [sl] at s1
                  have s42 := hp 5 (by rfl)
                  change a.tmps.getD 42 undef = _ at s42
                  simp at s42
                  have sg := hp 5 (by rfl)
                  clear hp
                  refine wpOp_on rfl (wanted_yes rfl (yielded_at rfl sg) rfl) ?_
                  clear sg
                  dsimp only
                  go_wp2_with (first | (go_at_call 16; refine (costOne_any _ _ _ _).mono ?_; rintro e w8 ⟨rfl, hb8⟩))
                  exact ⟨_, rfl, rfl, (by repeat (first | exact kE | exact Ext.refl _ | apply Ext.alloc | apply Ext.drewN | apply Ext.drew | apply Ext.set0 | apply Ext.set1 | apply Ext.set2 | apply Ext.set3 | (refine Ext.setk ?_ (by omega) _) | (apply Ext.snoc; assumption)))⟩
                · intro hp
                  have s0 := hA 0 (by rfl)
                  simp [sl] at s0
                  have s42 := hp 5 (by rfl)
                  change a.tmps.getD 42 undef = _ at s42
                  simp at s42
                  have sg := hp 5 (by rfl)
                  clear hp
                  refine wpOp_on rfl (wanted_yes rfl (yielded_at rfl sg) rfl) ?_
                  clear sg
                  dsimp only
                  go_wp2_with (first | (go_at_call 16; refine (costOne_any _ _ _ _).mono ?_; rintro e w8 ⟨rfl, hb8⟩))
                  exact ⟨_, rfl, rfl, (by repeat (first | exact kE | exact Ext.refl _ | apply Ext.alloc | apply Ext.drewN | apply Ext.drew | apply Ext.set0 | apply Ext.set1 | apply Ext.set2 | apply Ext.set3 | (refine Ext.setk ?_ (by omega) _) | (apply Ext.snoc; assumption)))⟩
                · intro hp
                  have s7 := hA 7 (by rfl)
                  simp [sl] at s7
                  have s42 := hp 5 (by rfl)
                  change a.tmps.getD 42 undef = _ at s42
                  simp at s42
                  have sg := hp 5 (by rfl)
                  clear hp
                  refine wpOp_on rfl (wanted_yes rfl (yielded_at rfl sg) rfl) ?_
                  clear sg
                  dsimp only
                  go_wp2_with (first | (go_at_call 16; refine (costOne_any _ _ _ _).mono ?_; rintro e w8 ⟨rfl, hb8⟩))
                  exact ⟨_, rfl, rfl, (by repeat (first | exact kE | exact Ext.refl _ | apply Ext.alloc | apply Ext.drewN | apply Ext.drew | apply Ext.set0 | apply Ext.set1 | apply Ext.set2 | apply Ext.set3 | (refine Ext.setk ?_ (by omega) _) | (apply Ext.snoc; assumption)))⟩
                · intro hp
                  have s42 := hp 5 (by rfl)
                  change a.tmps.getD 42 undef = _ at s42
                  simp at s42
                  have s50 := hp 13 (by rfl)
                  change a.tmps.getD 50 undef = _ at s50
                  simp at s50
                  have s51 := hp 14 (by rfl)
                  change a.tmps.getD 51 undef = _ at s51
                  simp at s51
                  have sg := hp 5 (by rfl)
                  clear hp
                  refine wpOp_on rfl (wanted_yes rfl (yielded_at rfl sg) rfl) ?_
                  clear sg
                  dsimp only
                  go_wp2_with (first | (go_at_call 16; refine (costOne_any _ _ _ _).mono ?_; rintro e w8 ⟨rfl, hb8⟩))
                  exact ⟨_, rfl, rfl, (by repeat (first | exact kE | exact Ext.refl _ | apply Ext.alloc | apply Ext.drewN | apply Ext.drew | apply Ext.set0 | apply Ext.set1 | apply Ext.set2 | apply Ext.set3 | (refine Ext.setk ?_ (by omega) _) | (apply Ext.snoc; assumption)))⟩
                · intro hp
                  have s42 := hp 5 (by rfl)
                  change a.tmps.getD 42 undef = _ at s42
                  simp at s42
                  have s52 := hp 15 (by rfl)
                  change a.tmps.getD 52 undef = _ at s52
                  simp at s52
                  have sg := hp 5 (by rfl)
                  clear hp
                  refine wpOp_on rfl (wanted_yes rfl (yielded_at rfl sg) rfl) ?_
                  clear sg
                  dsimp only
                  go_wp2_with (first | (go_at_call 16; refine (costOne_any _ _ _ _).mono ?_; rintro e w8 ⟨rfl, hb8⟩))
                  exact ⟨_, rfl, rfl, (by repeat (first | exact kE | exact Ext.refl _ | apply Ext.alloc | apply Ext.drewN | apply Ext.drew | apply Ext.set0 | apply Ext.set1 | apply Ext.set2 | apply Ext.set3 | (refine Ext.setk ?_ (by omega) _) | (apply Ext.snoc; assumption)))⟩
                · intro hp
                  have s42 := hp 5 (by rfl)
                  change a.tmps.getD 42 undef = _ at s42
                  simp at s42
                  have s49 := hp 12 (by rfl)
                  change a.tmps.getD 49 undef = _ at s49
                  simp at s49
                  have s53 := hp 16 (by rfl)
                  change a.tmps.getD 53 undef = _ at s53
                  simp at s53
                  have sg := hp 5 (by rfl)
                  clear hp
                  refine wpOp_on rfl (wanted_yes rfl (yielded_at rfl sg) rfl) ?_
                  clear sg
                  dsimp only
                  go_wp2_with (first | (go_at_call 16; refine (costOne_any _ _ _ _).mono ?_; rintro e w8 ⟨rfl, hb8⟩))
                  exact ⟨_, rfl, rfl, (by repeat (first | exact kE | exact Ext.refl _ | apply Ext.alloc | apply Ext.drewN | apply Ext.drew | apply Ext.set0 | apply Ext.set1 | apply Ext.set2 | apply Ext.set3 | (refine Ext.setk ?_ (by omega) _) | (apply Ext.snoc; assumption)))⟩
                · intro hp
                  have s42 := hp 5 (by rfl)
                  change a.tmps.getD 42 undef = _ at s42
                  simp at s42
                  have s48 := hp 11 (by rfl)
                  change a.tmps.getD 48 undef = _ at s48
                  simp at s48
                  have s54 := hp 17 (by rfl)
                  change a.tmps.getD 54 undef = _ at s54
                  simp at s54
                  have sg := hp 5 (by rfl)
                  clear hp
                  refine wpOp_on rfl (wanted_yes rfl (yielded_at rfl sg) rfl) ?_
                  clear sg
                  dsimp only
                  go_wp2_with (first | (go_at_call 16; refine (costOne_any _ _ _ _).mono ?_; rintro e w8 ⟨rfl, hb8⟩))
                  exact ⟨_, rfl, rfl, (by repeat (first | exact kE | exact Ext.refl _ | apply Ext.alloc | apply Ext.drewN | apply Ext.drew | apply Ext.set0 | apply Ext.set1 | apply Ext.set2 | apply Ext.set3 | (refine Ext.setk ?_ (by omega) _) | (apply Ext.snoc; assumption)))⟩
                · intro hp
                  have s5 := hA 5 (by rfl)
                  simp [sl] at s5
                  have s42 := hp 5 (by rfl)
                  change a.tmps.getD 42 undef = _ at s42
                  simp at s42
                  have sg := hp 5 (by rfl)
                  clear hp
                  refine wpOp_on rfl (wanted_yes rfl (yielded_at rfl sg) rfl) ?_
                  clear sg
                  dsimp only
                  go_wp2_with (first | (go_at_call 16; refine (costOne_any _ _ _ _).mono ?_; rintro e w8 ⟨rfl, hb8⟩))
                  exact ⟨_, rfl, rfl, (by repeat (first | exact kE | exact Ext.refl _ | apply Ext.alloc | apply Ext.drewN | apply Ext.drew | apply Ext.set0 | apply Ext.set1 | apply Ext.set2 | apply Ext.set3 | (refine Ext.setk ?_ (by omega) _) | (apply Ext.snoc; assumption)))⟩
                · intro hp
                  have s6 := hA 6 (by rfl)
                  simp [sl] at s6
                  have s42 := hp 5 (by rfl)
                  change a.tmps.getD 42 undef = _ at s42
                  simp at s42
                  have sg := hp 5 (by rfl)
                  clear hp
                  refine wpOp_on rfl (wanted_yes rfl (yielded_at rfl sg) rfl) ?_
                  clear sg
                  dsimp only
                  go_wp2_with (first | (go_at_call 16; refine (costOne_any _ _ _ _).mono ?_; rintro e w8 ⟨rfl, hb8⟩))
                  exact ⟨_, rfl, rfl, (by repeat (first | exact kE | exact Ext.refl _ | apply Ext.alloc | apply Ext.drewN | apply Ext.drew | apply Ext.set0 | apply Ext.set1 | apply Ext.set2 | apply Ext.set3 | (refine Ext.setk ?_ (by omega) _) | (apply Ext.snoc; assumption)))⟩
                · intro hp
                  have s42 := hp 5 (by rfl)
                  change a.tmps.getD 42 undef = _ at s42
                  simp at s42
                  have s56 := hp 19 (by rfl)
                  change a.tmps.getD 56 undef = _ at s56
                  simp at s56
                  have s57 := hp 20 (by rfl)
                  change a.tmps.getD 57 undef = _ at s57
                  simp at s57
                  have sg := hp 5 (by rfl)
                  clear hp
                  refine wpOp_on rfl (wanted_yes rfl (yielded_at rfl sg) rfl) ?_
                  clear sg
                  dsimp only
                  go_wp2_with (first | (go_at_call 16; refine (costOne_any _ _ _ _).mono ?_; rintro e w8 ⟨rfl, hb8⟩))
                  exact ⟨_, rfl, rfl, (by repeat (first | exact kE | exact Ext.refl _ | apply Ext.alloc | apply Ext.drewN | apply Ext.drew | apply Ext.set0 | apply Ext.set1 | apply Ext.set2 | apply Ext.set3 | (refine Ext.setk ?_ (by omega) _) | (apply Ext.snoc; assumption)))⟩
                · intro hp
                  have s42 := hp 5 (by rfl)
                  change a.tmps.getD 42 undef = _ at s42
                  simp at s42
                  have s58 := hp 21 (by rfl)
                  change a.tmps.getD 58 undef = _ at s58
                  simp at s58
                  have sg := hp 5 (by rfl)
                  clear hp
                  refine wpOp_on rfl (wanted_yes rfl (yielded_at rfl sg) rfl) ?_
                  clear sg
                  dsimp only
                  go_wp2_with (first | (go_at_call 16; refine (costOne_any _ _ _ _).mono ?_; rintro e w8 ⟨rfl, hb8⟩))
                  exact ⟨_, rfl, rfl, (by repeat (first | exact kE | exact Ext.refl _ | apply Ext.alloc | apply Ext.drewN | apply Ext.drew | apply Ext.set0 | apply Ext.set1 | apply Ext.set2 | apply Ext.set3 | (refine Ext.setk ?_ (by omega) _) | (apply Ext.snoc; assumption)))⟩
                · intro hp
                  have s42 := hp 5 (by rfl)
                  change a.tmps.getD 42 undef = _ at s42
                  simp at s42
                  have s55 := hp 18 (by rfl)
                  change a.tmps.getD 55 undef = _ at s55
                  simp at s55
                  have s59 := hp 22 (by rfl)
                  change a.tmps.getD 59 undef = _ at s59
                  simp at s59
                  have sg := hp 5 (by rfl)
                  clear hp
                  refine wpOp_on rfl (wanted_yes rfl (yielded_at rfl sg) rfl) ?_
                  clear sg
                  dsimp only
                  go_wp2_with (first | (go_at_call 16; refine (costOne_any _ _ _ _).mono ?_; rintro e w8 ⟨rfl, hb8⟩))
                  exact ⟨_, rfl, rfl, (by repeat (first | exact kE | exact Ext.refl _ | apply Ext.alloc | apply Ext.drewN | apply Ext.drew | apply Ext.set0 | apply Ext.set1 | apply Ext.set2 | apply Ext.set3 | (refine Ext.setk ?_ (by omega) _) | (apply Ext.snoc; assumption)))⟩
                · intro hp
                  have s42 := hp 5 (by rfl)
                  change a.tmps.getD 42 undef = _ at s42
                  simp at s42
                  have s60 := hp 23 (by rfl)
                  change a.tmps.getD 60 undef = _ at s60
                  simp at s60
                  clear hp
                  refine wpOp_of_list rfl rfl ?_
                  go_wp2_with (first | (go_at_call 16; refine (costOne_any _ _ _ _).mono ?_; rintro e w8 ⟨rfl, hb8⟩))
                  exact ⟨_, rfl, rfl, (by repeat (first | exact kE | exact Ext.refl _ | apply Ext.alloc | apply Ext.drewN | apply Ext.drew | apply Ext.set0 | apply Ext.set1 | apply Ext.set2 | apply Ext.set3 | (refine Ext.setk ?_ (by omega) _) | (apply Ext.snoc; assumption)))⟩
              case XBfin =>
                intro X w7 hE7 hp
                obtain ⟨⟨⟨⟨⟨⟨⟨⟨⟨⟨⟨⟨⟨⟨⟨⟨⟨⟨⟨⟨⟨⟨⟨⟨⟨_, h0⟩, h1⟩, h2⟩, h3⟩, h4⟩, h5⟩, h6⟩, h7⟩, h8⟩, h9⟩, h10⟩, h11⟩, h12⟩, h13⟩, h14⟩, h15⟩, h16⟩, h17⟩, h18⟩, h19⟩, h20⟩, h21⟩, h22⟩, h23⟩, h24⟩ := hp
                change X 0 = _ at h0
                change X 1 = _ at h1
                change X 2 = _ at h2
                change X 3 = _ at h3
                change X 4 = _ at h4
                change X 5 = _ at h5
                change X 6 = _ at h6
                change X 7 = _ at h7
                change X 8 = _ at h8
                change X 9 = _ at h9
                change X 10 = _ at h10
                change X 11 = _ at h11
                change X 12 = _ at h12
                change X 13 = _ at h13
                change X 14 = _ at h14
                change X 15 = _ at h15
                change X 16 = _ at h16
                change X 17 = _ at h17
                change X 18 = _ at h18
                change X 19 = _ at h19
                change X 20 = _ at h20
                change X 21 = _ at h21
                change X 22 = _ at h22
                change X 23 = _ at h23
                change X 24 = _ at h24
                simp only [List.drop_succ_cons, List.drop_nil]
                refine wpList_nil ?_
                go_simp
                have HF7 := hide (HF.out.ext hE7)
                have HE7 := hide (HE.out.trans hE7)
                have HR7 := hide (HR.out.ext (HE.out.trans hE7))
                have h07 := hE7.facts.2.2 _ hb0
                clear hbv han hy hE7 e0 e1 e2 d1 d2 hb0 hzb
                go_wp2_with fail
                have hp2 : p < 2 ^ L.length := by rw [HN.out]; omega
                refine (membersOf_any p L.length _ hp2 (by omega)).mono ?_; rintro e w6 ⟨Am, cm, rfl, hown, hb6⟩
                have HRM6 := hide (Rds.of_own hown)
                have HF6 := hide (HF7.out.ext hb6)
                have HE6 := hide (HE7.out.trans hb6)
                clear hown hb6 hp2 HF7 HE7 HR7 h07
                go_wp2_with fail
                go_loopw [9, 10, 65] (fun r al ix wi => ∃ j : Nat, j ≤ (memI p L.length).length ∧ ix = .int .i64 j ∧ r = .int .i64 (roomTo L (memN p L.length) j) ∧ (∃ b, al = .bool b ∧ Hid (alikeTo L (memN p L.length) L[fst] j = b)) ∧ Ext w6 wi) (fun _ _ ix _ => (memI p L.length).length - (intOf ix).toNat)
                case atStart => exact ⟨0, Nat.zero_le _, rfl, rfl, ⟨true, rfl, hide rfl⟩, Ext.refl _⟩
                case round =>
                  obtain ⟨j, hjm, rfl, rfl, ⟨al, rfl, hal⟩, hE⟩ := hrel
                  have HI := hide hE
                  have hml : (memI p L.length).length ≤ 10 := by rw [memI_length]; have := memN_length p L.length; omega
                  have hRI := roomTo_in (L := L) (m := memN p L.length) (fun y hy => ⟨(HL.out y hy).2.2.2.2.1, (HL.out y hy).2.2.2.2.2⟩) (fun i hi => (memN_mem.1 hi).1) j (by rw [← memI_length]; exact hjm)
                  obtain ⟨r, hr⟩ : ∃ r, roomTo L (memN p L.length) j = r := ⟨_, rfl⟩
                  rw [hr] at hRI ⊢
                  have HRJ := hide hr
                  clear hr
                  by_cases hjl : j < (memI p L.length).length
                  · have hjn : j < (memN p L.length).length := by rw [← memI_length]; exact hjl
                    obtain ⟨bm, offm, rfl, hbm, em⟩ := RI.at_ (Rds.ext HRM6.out hE) hjl
                    obtain ⟨i, hi⟩ : ∃ i, (memN p L.length)[j] = i := ⟨_, rfl⟩
                    have hil : i < L.length := by rw [← hi]; exact (memN_mem.1 (List.getElem_mem hjn)).1
                    have hmi : (memI p L.length)[j] = (i : Int) := by rw [← hi]; simp [memI]
                    rw [hmi] at em
                    obtain ⟨b1, off1, hA1, hb1, e0, e1, e2⟩ := R3.at_ (HR.out.ext (HE6.out.trans hE)) hil
                    injection hA1 with hA1
                    injection hA1 with hA1 hA2 _
                    subst hA1 hA2
                    obtain ⟨b1, off1, hA1, _, d0, d1, d2⟩ := R3.at_ (HR.out.ext (HE6.out.trans hE)) hfl
                    injection hA1 with hA1
                    injection hA1 with hA1 hA2 _
                    subst hA1 hA2
                    rw [HQ1.out] at d0
                    rw [HQ2.out] at d1
                    clear d2 hE
                    obtain ⟨p1, hp1⟩ : ∃ q, L[i].1 = q := ⟨_, rfl⟩
                    obtain ⟨p2, hp2⟩ : ∃ q, L[i].2.1 = q := ⟨_, rfl⟩
                    obtain ⟨p3, hp3⟩ : ∃ q, L[i].2.2 = q := ⟨_, rfl⟩
                    have hp3b := HRM.out _ (List.getElem_mem hil)
                    have hp3c := (HL.out _ (List.getElem_mem hil)).2.2.2.2.1
                    have hpi : paneAt L i = L[i] := paneAt_eq hil
                    have hra := roomTo_succ L (memN p L.length) hjn
                    have haa := alikeTo_succ L (memN p L.length) L[fst] hjn
                    rw [hi, hpi] at hra haa
                    rw [HRJ.out, hp3] at hra
                    unfold sameKey at haa
                    rw [hal.out, hp1, hp2, HQ1.out, HQ2.out] at haa
                    rw [hp1] at e0
                    rw [hp2] at e1
                    rw [hp3] at e2 hp3b hp3c
                    have HRA := hide hra
                    have HAA := hide haa
                    clear hp1 hp2 hp3 hpi hra haa hi hmi
                    cases al
                    · skip
                      go_wp2_with fail
                      go_quiet (fail)
                      go_wp2_with fail
                      go_roundw
                      case rel => exact ⟨j + 1, by omega, by go_num, by rw [HRA.out], ⟨_, rfl, hide (by rw [HAA.out]; first | (simp; done) | (simp; assumption) | (simp [*]; done))⟩, by have hE := HI.out; repeat (first | exact kE | exact Ext.refl _ | apply Ext.alloc | apply Ext.drewN | apply Ext.drew | apply Ext.set0 | apply Ext.set1 | apply Ext.set2 | apply Ext.set3 | (refine Ext.setk ?_ (by omega) _) | (apply Ext.snoc; assumption))⟩
                      case measure => simp [intOf]; omega
                    · by_cases g1 : p1 = q1
                      · by_cases g2 : p2 = q2
                        · subst g1 g2
                          go_wp2_with fail
                          go_quiet (fail)
                          go_wp2_with fail
                          go_roundw
                          case rel => exact ⟨j + 1, by omega, by go_num, by rw [HRA.out], ⟨_, rfl, hide (by rw [HAA.out]; first | (simp; done) | (simp; assumption) | (simp [*]; done))⟩, by have hE := HI.out; repeat (first | exact kE | exact Ext.refl _ | apply Ext.alloc | apply Ext.drewN | apply Ext.drew | apply Ext.set0 | apply Ext.set1 | apply Ext.set2 | apply Ext.set3 | (refine Ext.setk ?_ (by omega) _) | (apply Ext.snoc; assumption))⟩
                          case measure => simp [intOf]; omega
                        · subst g1
                          have g2' : decide (p2 = q2) = false := decide_eq_false g2
                          rw [g2'] at HAA
                          clear g2'
                          go_wp2_with fail
                          go_quiet (fail)
                          go_wp2_with fail
                          go_roundw
                          case rel => exact ⟨j + 1, by omega, by go_num, by rw [HRA.out], ⟨_, rfl, hide (by rw [HAA.out]; first | (simp; done) | (simp; assumption) | (simp [*]; done))⟩, by have hE := HI.out; repeat (first | exact kE | exact Ext.refl _ | apply Ext.alloc | apply Ext.drewN | apply Ext.drew | apply Ext.set0 | apply Ext.set1 | apply Ext.set2 | apply Ext.set3 | (refine Ext.setk ?_ (by omega) _) | (apply Ext.snoc; assumption))⟩
                          case measure => simp [intOf]; omega
                      · have g1' : decide (p1 = q1) = false := decide_eq_false g1
                        rw [g1'] at HAA
                        clear g1'
                        go_wp2_with fail
                        go_quiet (fail)
                        go_wp2_with fail
                        go_roundw
                        case rel => exact ⟨j + 1, by omega, by go_num, by rw [HRA.out], ⟨_, rfl, hide (by rw [HAA.out]; first | (simp; done) | (simp; assumption) | (simp [*]; done))⟩, by have hE := HI.out; repeat (first | exact kE | exact Ext.refl _ | apply Ext.alloc | apply Ext.drewN | apply Ext.drew | apply Ext.set0 | apply Ext.set1 | apply Ext.set2 | apply Ext.set3 | (refine Ext.setk ?_ (by omega) _) | (apply Ext.snoc; assumption))⟩
                        case measure => simp [intOf]; omega
                  · obtain rfl : j = (memI p L.length).length := by omega
                    have hgi := good_iff (L := L) (x := L[fst]) hb
                    rw [← memI_length, hal.out, HRJ.out] at hgi
                    have HGI := hide hgi
                    have HF8 := hide (HF6.out.ext hE)
                    have HE8 := hide (HE6.out.trans hE)
                    clear hgi hE hjl
                    cases al
                    · have HS := hide (hrun.out.skip hpp.out (fun hg => absurd (HGI.out.1 hg).1 (by simp)))
                      go_wp2_with fail
                      have hnx := HNX.out
                      go_wp2_with fail
                      clear hnx
                      go_roundw
                      case rel => exact ⟨(p - 1) &&& s, by omega, hide HNS.out, (by first | rfl | rw [HNX.out]), ⟨f, v, HF8.out, hfs, hT, HS⟩, HE8.out⟩
                      case measure => (try rw [HNX.out]); simp [intOf]; omega
                    · by_cases h100 : r ≤ 100
                      · have HS := hide (hrun.out.take hpp.out HLX.out (HGI.out.2 ⟨rfl, h100⟩) (by rw [HX.out]; exact (hT.out t hts).1) (by rw [HX.out, HFT.out, HCV.out]; exact hge'))
                        have hs2 := HS.out
                        rw [HX.out, HFT.out, HCV.out] at hs2
                        have HS := hide hs2
                        clear hs2
                        obtain ⟨b1, off1, hA1, hb0, e0, e1, e2⟩ := R3.at_ (HR.out.ext HE8.out) hfl
                        injection hA1 with hA1
                        injection hA1 with hA1 hA2 _
                        subst hA1 hA2
                        rw [HQ1.out] at e0
                        rw [HQ2.out] at e1
                        rw [HQ3.out] at e2
                        have d1 : wr.cell? ⟨w.heap.size, t, none⟩ = some (.int .i64 ft) := (HF8.out.cell t).trans (by rw [rowOf_get _ htN, HFT.out])
                        have d2 : wr.cell? ⟨w.heap.size, s, none⟩ = some (.int .i64 v) := (HF8.out.cell s).trans (by rw [rowOf_get _ hlt, hfs.out])
                        have hzb : w.heap.size < wr.heap.size := HF8.out.lt
                        have han := HAN.out
                        have hy := HY.out
                        go_wp2_with fail
                        apply wp_region_RL 16 131 (by kernel_rfl) (by kernel_rfl) (by kernel_rfl) (by kernel_rfl) (by kernel_rfl) (by kernel_rfl) rfl [fun v _ => v = _, fun v _ => v = _, fun v _ => v = _, fun v _ => v = _, fun v _ => v = _, fun v _ => v = _, fun v _ => v = _, fun v _ => v = _, fun v _ => v = _, fun v _ => v = _, fun v _ => v = _, fun v _ => v = _, fun v _ => v = _, fun v _ => v = _, fun v _ => v = _, fun v _ => v = _] rfl ⟨stab_eq _, stab_eq _, stab_eq _, stab_eq _, stab_eq _, stab_eq _, stab_eq _, stab_eq _, stab_eq _, stab_eq _, stab_eq _, stab_eq _, stab_eq _, stab_eq _, stab_eq _, stab_eq _, trivial⟩ ?XChop ?XCfin
                        case XChop =>
                          intro a w' hE hA
                          have hc := hE.facts.1
                          have hz := hE.facts.2.2
                          refine ⟨⟨⟨⟨⟨⟨⟨⟨⟨⟨⟨⟨⟨⟨⟨⟨trivial, ?_⟩, ?_⟩, ?_⟩, ?_⟩, ?_⟩, ?_⟩, ?_⟩, ?_⟩, ?_⟩, ?_⟩, ?_⟩, ?_⟩, ?_⟩, ?_⟩, ?_⟩, ?_⟩
                          · intro hp
                            have s5 := hA 5 (by rfl)
                            simp [sl] at s5
                            clear hp
                            refine wpOp_of_list rfl rfl ?_
                            go_wp2_with (first | (go_at_call 16; refine (costOne_any _ _ _ _).mono ?_; rintro e w8 ⟨rfl, hb8⟩))
                            exact ⟨_, rfl, rfl, (by repeat (first | exact kE | exact Ext.refl _ | apply Ext.alloc | apply Ext.drewN | apply Ext.drew | apply Ext.set0 | apply Ext.set1 | apply Ext.set2 | apply Ext.set3 | (refine Ext.setk ?_ (by omega) _) | (apply Ext.snoc; assumption)))⟩
                          · intro hp
                            have s6 := hA 6 (by rfl)
                            simp [sl] at s6
                            clear hp
                            refine wpOp_of_list rfl rfl ?_
                            go_wp2_with (first | (go_at_call 16; refine (costOne_any _ _ _ _).mono ?_; rintro e w8 ⟨rfl, hb8⟩))
                            exact ⟨_, rfl, rfl, (by repeat (first | exact kE | exact Ext.refl _ | apply Ext.alloc | apply Ext.drewN | apply Ext.drew | apply Ext.set0 | apply Ext.set1 | apply Ext.set2 | apply Ext.set3 | (refine Ext.setk ?_ (by omega) _) | (apply Ext.snoc; assumption)))⟩
                          · intro hp
                            have s5 := hA 5 (by rfl)
                            simp [sl] at s5
                            clear hp
                            refine wpOp_of_list rfl rfl ?_
                            go_wp2_with (first | (go_at_call 16; refine (costOne_any _ _ _ _).mono ?_; rintro e w8 ⟨rfl, hb8⟩))
                            exact ⟨_, rfl, rfl, (by repeat (first | exact kE | exact Ext.refl _ | apply Ext.alloc | apply Ext.drewN | apply Ext.drew | apply Ext.set0 | apply Ext.set1 | apply Ext.set2 | apply Ext.set3 | (refine Ext.setk ?_ (by omega) _) | (apply Ext.snoc; assumption)))⟩
                          · intro hp
                            have s6 := hA 6 (by rfl)
                            simp [sl] at s6
                            clear hp
                            refine wpOp_of_list rfl rfl ?_
                            go_wp2_with (first | (go_at_call 16; refine (costOne_any _ _ _ _).mono ?_; rintro e w8 ⟨rfl, hb8⟩))
                            exact ⟨_, rfl, rfl, (by repeat (first | exact kE | exact Ext.refl _ | apply Ext.alloc | apply Ext.drewN | apply Ext.drew | apply Ext.set0 | apply Ext.set1 | apply Ext.set2 | apply Ext.set3 | (refine Ext.setk ?_ (by omega) _) | (apply Ext.snoc; assumption)))⟩
                          · intro hp
                            have s8 := hA 8 (by rfl)
                            simp [sl] at s8
                            clear hp
                            refine wpOp_of_list rfl rfl ?_
                            go_wp2_with (first | (go_at_call 16; refine (costOne_any _ _ _ _).mono ?_; rintro e w8 ⟨rfl, hb8⟩))
                            exact ⟨_, rfl, rfl, (by repeat (first | exact kE | exact Ext.refl _ | apply Ext.alloc | apply Ext.drewN | apply Ext.drew | apply Ext.set0 | apply Ext.set1 | apply Ext.set2 | apply Ext.set3 | (refine Ext.setk ?_ (by omega) _) | (apply Ext.snoc; assumption)))⟩
                          · intro hp
                            have s112 := hp 3 (by rfl)
                            change a.tmps.getD 112 undef = _ at s112
                            simp at s112
                            have s113 := hp 4 (by rfl)
                            change a.tmps.getD 113 undef = _ at s113
                            simp at s113
                            clear hp
                            refine wpOp_of_list rfl rfl ?_
                            go_wp2_with (first | (go_at_call 16; refine (costOne_any _ _ _ _).mono ?_; rintro e w8 ⟨rfl, hb8⟩))
                            exact ⟨_, rfl, rfl, (by repeat (first | exact kE | exact Ext.refl _ | apply Ext.alloc | apply Ext.drewN | apply Ext.drew | apply Ext.set0 | apply Ext.set1 | apply Ext.set2 | apply Ext.set3 | (refine Ext.setk ?_ (by omega) _) | (apply Ext.snoc; assumption)))⟩
                          · intro hp
                            have s111 := hp 2 (by rfl)
                            change a.tmps.getD 111 undef = _ at s111
                            simp at s111
                            have s114 := hp 5 (by rfl)
                            change a.tmps.getD 114 undef = _ at s114
                            simp at s114
                            clear hp
                            refine wpOp_of_list rfl rfl ?_
                            go_wp2_with (first | (go_at_call 16; refine (costOne_any _ _ _ _).mono ?_; rintro e w8 ⟨rfl, hb8⟩))
                            exact ⟨_, rfl, rfl, (by repeat (first | exact kE | exact Ext.refl _ | apply Ext.alloc | apply Ext.drewN | apply Ext.drew | apply Ext.set0 | apply Ext.set1 | apply Ext.set2 | apply Ext.set3 | (refine Ext.setk ?_ (by omega) _) | (apply Ext.snoc; assumption)))⟩
                          · intro hp
                            have s115 := hp 6 (by rfl)
                            change a.tmps.getD 115 undef = _ at s115
                            simp at s115
                            clear hp
                            refine wpOp_of_list rfl rfl ?_
                            go_wp2_with (first | (go_at_call 16; refine (costOne_any _ _ _ _).mono ?_; rintro e w8 ⟨rfl, hb8⟩))
                            exact ⟨_, rfl, rfl, (by repeat (first | exact kE | exact Ext.refl _ | apply Ext.alloc | apply Ext.drewN | apply Ext.drew | apply Ext.set0 | apply Ext.set1 | apply Ext.set2 | apply Ext.set3 | (refine Ext.setk ?_ (by omega) _) | (apply Ext.snoc; assumption)))⟩
                          · intro hp
                            have s1 := hA 1 (by rfl)
                            simp [sl] at s1
                            clear hp
                            refine wpOp_of_list rfl rfl ?_
                            go_wp2_with (first | (go_at_call 16; refine (costOne_any _ _ _ _).mono ?_; rintro e w8 ⟨rfl, hb8⟩))
                            exact ⟨_, rfl, rfl, (by repeat (first | exact kE | exact Ext.refl _ | apply Ext.alloc | apply Ext.drewN | apply Ext.drew | apply Ext.set0 | apply Ext.set1 | apply Ext.set2 | apply Ext.set3 | (refine Ext.setk ?_ (by omega) _) | (apply Ext.snoc; assumption)))⟩
                          · intro hp
                            have s0 := hA 0 (by rfl)
                            simp [sl] at s0
                            clear hp
                            refine wpOp_of_list rfl rfl ?_
                            go_wp2_with (first | (go_at_call 16; refine (costOne_any _ _ _ _).mono ?_; rintro e w8 ⟨rfl, hb8⟩))
                            exact ⟨_, rfl, rfl, (by repeat (first | exact kE | exact Ext.refl _ | apply Ext.alloc | apply Ext.drewN | apply Ext.drew | apply Ext.set0 | apply Ext.set1 | apply Ext.set2 | apply Ext.set3 | (refine Ext.setk ?_ (by omega) _) | (apply Ext.snoc; assumption)))⟩
                          · intro hp
                            have s7 := hA 7 (by rfl)
                            simp [sl] at s7
                            clear hp
                            refine wpOp_of_list rfl rfl ?_
                            go_wp2_with (first | (go_at_call 16; refine (costOne_any _ _ _ _).mono ?_; rintro e w8 ⟨rfl, hb8⟩))
                            exact ⟨_, rfl, rfl, (by repeat (first | exact kE | exact Ext.refl _ | apply Ext.alloc | apply Ext.drewN | apply Ext.drew | apply Ext.set0 | apply Ext.set1 | apply Ext.set2 | apply Ext.set3 | (refine Ext.setk ?_ (by omega) _) | (apply Ext.snoc; assumption)))⟩
                          · intro hp
                            have s118 := hp 9 (by rfl)
                            change a.tmps.getD 118 undef = _ at s118
                            simp at s118
                            have s119 := hp 10 (by rfl)
                            change a.tmps.getD 119 undef = _ at s119
                            simp at s119
                            clear hp
                            refine wpOp_of_list rfl rfl ?_
                            go_wp2_with (first | (go_at_call 16; refine (costOne_any _ _ _ _).mono ?_; rintro e w8 ⟨rfl, hb8⟩))
                            exact ⟨_, rfl, rfl, (by repeat (first | exact kE | exact Ext.refl _ | apply Ext.alloc | apply Ext.drewN | apply Ext.drew | apply Ext.set0 | apply Ext.set1 | apply Ext.set2 | apply Ext.set3 | (refine Ext.setk ?_ (by omega) _) | (apply Ext.snoc; assumption)))⟩
                          · intro hp
                            have s120 := hp 11 (by rfl)
                            change a.tmps.getD 120 undef = _ at s120
                            simp at s120
                            clear hp
                            refine wpOp_of_list rfl rfl ?_
                            go_wp2_with (first | (go_at_call 16; refine (costOne_any _ _ _ _).mono ?_; rintro e w8 ⟨rfl, hb8⟩))
                            exact ⟨_, rfl, rfl, (by repeat (first | exact kE | exact Ext.refl _ | apply Ext.alloc | apply Ext.drewN | apply Ext.drew | apply Ext.set0 | apply Ext.set1 | apply Ext.set2 | apply Ext.set3 | (refine Ext.setk ?_ (by omega) _) | (apply Ext.snoc; assumption)))⟩
                          · intro hp
                            have s117 := hp 8 (by rfl)
                            change a.tmps.getD 117 undef = _ at s117
                            simp at s117
                            have s121 := hp 12 (by rfl)
                            change a.tmps.getD 121 undef = _ at s121
                            simp at s121
                            clear hp
                            refine wpOp_of_list rfl rfl ?_
                            go_wp2_with (first | (go_at_call 16; refine (costOne_any _ _ _ _).mono ?_; rintro e w8 ⟨rfl, hb8⟩))
                            exact ⟨_, rfl, rfl, (by repeat (first | exact kE | exact Ext.refl _ | apply Ext.alloc | apply Ext.drewN | apply Ext.drew | apply Ext.set0 | apply Ext.set1 | apply Ext.set2 | apply Ext.set3 | (refine Ext.setk ?_ (by omega) _) | (apply Ext.snoc; assumption)))⟩
                          · intro hp
                            have s116 := hp 7 (by rfl)
                            change a.tmps.getD 116 undef = _ at s116
                            simp at s116
                            have s122 := hp 13 (by rfl)
                            change a.tmps.getD 122 undef = _ at s122
                            simp at s122
                            clear hp
                            refine wpOp_of_list rfl rfl ?_
                            go_wp2_with (first | (go_at_call 16; refine (costOne_any _ _ _ _).mono ?_; rintro e w8 ⟨rfl, hb8⟩))
                            exact ⟨_, rfl, rfl, (by repeat (first | exact kE | exact Ext.refl _ | apply Ext.alloc | apply Ext.drewN | apply Ext.drew | apply Ext.set0 | apply Ext.set1 | apply Ext.set2 | apply Ext.set3 | (refine Ext.setk ?_ (by omega) _) | (apply Ext.snoc; assumption)))⟩
                          · intro hp
                            have s109 := hp 0 (by rfl)
                            change a.tmps.getD 109 undef = _ at s109
                            simp at s109
                            have s110 := hp 1 (by rfl)
                            change a.tmps.getD 110 undef = _ at s110
                            simp at s110
                            clear hp
                            refine wpOp_of_list rfl rfl ?_
                            go_wp2_with (first | (go_at_call 16; refine (costOne_any _ _ _ _).mono ?_; rintro e w8 ⟨rfl, hb8⟩))
                            exact ⟨_, rfl, rfl, (by repeat (first | exact kE | exact Ext.refl _ | apply Ext.alloc | apply Ext.drewN | apply Ext.drew | apply Ext.set0 | apply Ext.set1 | apply Ext.set2 | apply Ext.set3 | (refine Ext.setk ?_ (by omega) _) | (apply Ext.snoc; assumption)))⟩
                        case XCfin =>
                          intro X w7 hE7 hp
                          obtain ⟨⟨⟨⟨⟨⟨⟨⟨⟨⟨⟨⟨⟨⟨⟨⟨_, h0⟩, h1⟩, h2⟩, h3⟩, h4⟩, h5⟩, h6⟩, h7⟩, h8⟩, h9⟩, h10⟩, h11⟩, h12⟩, h13⟩, h14⟩, h15⟩ := hp
                          change X 0 = _ at h0
                          change X 1 = _ at h1
                          change X 2 = _ at h2
                          change X 3 = _ at h3
                          change X 4 = _ at h4
                          change X 5 = _ at h5
                          change X 6 = _ at h6
                          change X 7 = _ at h7
                          change X 8 = _ at h8
                          change X 9 = _ at h9
                          change X 10 = _ at h10
                          change X 11 = _ at h11
                          change X 12 = _ at h12
                          change X 13 = _ at h13
                          change X 14 = _ at h14
                          change X 15 = _ at h15
                          simp only [List.drop_succ_cons, List.drop_zero]
                          go_simp
                          have f9 := (HF8.out.ext hE7).free s
                          have d9 := (hE7.facts.1 _ s hzb).trans d2
                          have h1 := (HF8.out.ext hE7).set s (.int .i64 (ft + 1))
                          rw [rowOf_set _ _ hlt] at h1
                          have h3 := (HE8.out.trans hE7).set (p := ⟨w.heap.size, s, none⟩) (Nat.le_refl _) (.int .i64 (ft + 1))
                          have H1 := hide h1
                          have H3 := hide h3
                          clear h1 h3 d1 d2 e0 e1 e2 han hy hE7 hb0 hzb
                          go_wp2_with fail
                          clear d9 f9
                          have hnx := HNX.out
                          go_wp2_with fail
                          clear hnx
                          go_roundw
                          case rel => exact ⟨(p - 1) &&& s, by omega, hide HNS.out, (by first | rfl | rw [HNX.out]), ⟨_, _, H1.out, hide (if_pos rfl), hide (fun t ht => by (try dsimp only); rw [if_neg (by omega)]; exact hT.out t ht), hide (HS.out.congr (fun t ht => if_neg (by omega)) hpp.out)⟩, H3.out⟩
                          case measure => (try rw [HNX.out]); simp [intOf]; omega
                      · have HS := hide (hrun.out.skip hpp.out (fun hg => absurd (HGI.out.1 hg).2 h100))
                        go_wp2_with fail
                        have hnx := HNX.out
                        go_wp2_with fail
                        clear hnx
                        go_roundw
                        case rel => exact ⟨(p - 1) &&& s, by omega, hide HNS.out, (by first | rfl | rw [HNX.out]), ⟨f, v, HF8.out, hfs, hT, HS⟩, HE8.out⟩
                        case measure => (try rw [HNX.out]); simp [intOf]; omega
          · have hb' : p.testBit fst = false := by simpa using hb
            have HBV := hide (show bits .and .i64 ((p : Int) / 2 ^ fst) 1 = 0 by rw [bit_at p fst (by omega), hb']; rfl)
            have HS := hide (hrun.out.skip hpp.out (fun hg => absurd hg.1 hb))
            clear hE hb hb'
            have hbv := HBV.out
            go_wp2_with fail
            apply wp_region_RL 25 131 (by kernel_rfl) (by kernel_rfl) (by kernel_rfl) (by kernel_rfl) (by kernel_rfl) (by kernel_rfl) rfl [fun v _ => v = _, fun v _ => v = _, fun v _ => v = _, fun v _ => v = _, fun v _ => v = _, fun v _ => v = _, fun v _ => v = _, fun v _ => v = _, fun v _ => v = _, fun v _ => v = _, fun v _ => v = _, fun v _ => v = _, fun v _ => v = _, fun v _ => v = _, fun v _ => v = _, fun v _ => v = _, fun v _ => v = _, fun v _ => v = _, fun v _ => v = _, fun v _ => v = _, fun v _ => v = _, fun v _ => v = _, fun v _ => v = _, fun v _ => v = _, fun v _ => v = _] rfl ⟨stab_eq _, stab_eq _, stab_eq _, stab_eq _, stab_eq _, stab_eq _, stab_eq _, stab_eq _, stab_eq _, stab_eq _, stab_eq _, stab_eq _, stab_eq _, stab_eq _, stab_eq _, stab_eq _, stab_eq _, stab_eq _, stab_eq _, stab_eq _, stab_eq _, stab_eq _, stab_eq _, stab_eq _, stab_eq _, trivial⟩ ?XEhop ?XEfin
            case XEhop =>
              intro a w' hE hA
              have hc := hE.facts.1
              have hz := hE.facts.2.2
              refine ⟨⟨⟨⟨⟨⟨⟨⟨⟨⟨⟨⟨⟨⟨⟨⟨⟨⟨⟨⟨⟨⟨⟨⟨⟨trivial, ?_⟩, ?_⟩, ?_⟩, ?_⟩, ?_⟩, ?_⟩, ?_⟩, ?_⟩, ?_⟩, ?_⟩, ?_⟩, ?_⟩, ?_⟩, ?_⟩, ?_⟩, ?_⟩, ?_⟩, ?_⟩, ?_⟩, ?_⟩, ?_⟩, ?_⟩, ?_⟩, ?_⟩, ?_⟩
              · intro hp
                have s8 := hA 8 (by rfl)
                simp [sl] at s8
                clear hp
                refine wpOp_of_list rfl rfl ?_
                go_wp2_with fail
                exact ⟨_, rfl, rfl, (by repeat (first | exact kE | exact Ext.refl _ | apply Ext.alloc | apply Ext.drewN | apply Ext.drew | apply Ext.set0 | apply Ext.set1 | apply Ext.set2 | apply Ext.set3 | (refine Ext.setk ?_ (by omega) _) | (apply Ext.snoc; assumption)))⟩
              · intro hp
                have s7 := hA 7 (by rfl)
                simp [sl] at s7
                clear hp
                refine wpOp_of_list rfl rfl ?_
                go_wp2_with fail
                exact ⟨_, rfl, rfl, (by repeat (first | exact kE | exact Ext.refl _ | apply Ext.alloc | apply Ext.drewN | apply Ext.drew | apply Ext.set0 | apply Ext.set1 | apply Ext.set2 | apply Ext.set3 | (refine Ext.setk ?_ (by omega) _) | (apply Ext.snoc; assumption)))⟩
              · intro hp
                have s37 := hp 0 (by rfl)
                change a.tmps.getD 37 undef = _ at s37
                simp at s37
                have s38 := hp 1 (by rfl)
                change a.tmps.getD 38 undef = _ at s38
                simp at s38
                clear hp
                refine wpOp_of_list rfl rfl ?_
                go_wp2_with fail
                exact ⟨_, rfl, rfl, (by repeat (first | exact kE | exact Ext.refl _ | apply Ext.alloc | apply Ext.drewN | apply Ext.drew | apply Ext.set0 | apply Ext.set1 | apply Ext.set2 | apply Ext.set3 | (refine Ext.setk ?_ (by omega) _) | (apply Ext.snoc; assumption)))⟩
              · intro hp
                have s39 := hp 2 (by rfl)
                change a.tmps.getD 39 undef = _ at s39
                simp at s39
                clear hp
                refine wpOp_of_list rfl rfl ?_
                go_wp2_with fail
                exact ⟨_, rfl, rfl, (by repeat (first | exact kE | exact Ext.refl _ | apply Ext.alloc | apply Ext.drewN | apply Ext.drew | apply Ext.set0 | apply Ext.set1 | apply Ext.set2 | apply Ext.set3 | (refine Ext.setk ?_ (by omega) _) | (apply Ext.snoc; assumption)))⟩
              · intro hp
                have s40 := hp 3 (by rfl)
                change a.tmps.getD 40 undef = _ at s40
                simp at s40
                clear hp
                refine wpOp_of_list rfl rfl ?_
                go_wp2_with fail
                exact ⟨_, rfl, rfl, (by repeat (first | exact kE | exact Ext.refl _ | apply Ext.alloc | apply Ext.drewN | apply Ext.drew | apply Ext.set0 | apply Ext.set1 | apply Ext.set2 | apply Ext.set3 | (refine Ext.setk ?_ (by omega) _) | (apply Ext.snoc; assumption)))⟩
              · intro hp
                have s41 := hp 4 (by rfl)
                change a.tmps.getD 41 undef = _ at s41
                simp at s41
                clear hp
                refine wpOp_of_list rfl rfl ?_
                go_wp2_with fail
                exact ⟨_, rfl, rfl, (by repeat (first | exact kE | exact Ext.refl _ | apply Ext.alloc | apply Ext.drewN | apply Ext.drew | apply Ext.set0 | apply Ext.set1 | apply Ext.set2 | apply Ext.set3 | (refine Ext.setk ?_ (by omega) _) | (apply Ext.snoc; assumption)))⟩
              · intro hp
                have sg := hp 5 (by rfl)
                exact wpOp_skipR rfl (wanted_no rfl (yielded_at rfl sg) rfl) rfl
              · intro hp
                have sg := hp 5 (by rfl)
                exact wpOp_skipR rfl (wanted_no rfl (yielded_at rfl sg) rfl) rfl
              · intro hp
                have sg := hp 5 (by rfl)
                exact wpOp_skipR rfl (wanted_no rfl (yielded_at rfl sg) rfl) rfl
              · intro hp
                have sg := hp 5 (by rfl)
                exact wpOp_skipR rfl (wanted_no rfl (yielded_at rfl sg) rfl) rfl
              · intro hp
                have sg := hp 5 (by rfl)
                exact wpOp_skipR rfl (wanted_no rfl (yielded_at rfl sg) rfl) rfl
              · intro hp
                have sg := hp 5 (by rfl)
                exact wpOp_skipR rfl (wanted_no rfl (yielded_at rfl sg) rfl) rfl
              · intro hp
                have sg := hp 5 (by rfl)
                exact wpOp_skipR rfl (wanted_no rfl (yielded_at rfl sg) rfl) rfl
              · intro hp
                have sg := hp 5 (by rfl)
                exact wpOp_skipR rfl (wanted_no rfl (yielded_at rfl sg) rfl) rfl
              · intro hp
                have sg := hp 5 (by rfl)
                exact wpOp_skipR rfl (wanted_no rfl (yielded_at rfl sg) rfl) rfl
              · intro hp
                have sg := hp 5 (by rfl)
                exact wpOp_skipR rfl (wanted_no rfl (yielded_at rfl sg) rfl) rfl
              · intro hp
                have sg := hp 5 (by rfl)
                exact wpOp_skipR rfl (wanted_no rfl (yielded_at rfl sg) rfl) rfl
              · intro hp
                have sg := hp 5 (by rfl)
                exact wpOp_skipR rfl (wanted_no rfl (yielded_at rfl sg) rfl) rfl
              · intro hp
                have sg := hp 5 (by rfl)
                exact wpOp_skipR rfl (wanted_no rfl (yielded_at rfl sg) rfl) rfl
              · intro hp
                have sg := hp 5 (by rfl)
                exact wpOp_skipR rfl (wanted_no rfl (yielded_at rfl sg) rfl) rfl
              · intro hp
                have sg := hp 5 (by rfl)
                exact wpOp_skipR rfl (wanted_no rfl (yielded_at rfl sg) rfl) rfl
              · intro hp
                have sg := hp 5 (by rfl)
                exact wpOp_skipR rfl (wanted_no rfl (yielded_at rfl sg) rfl) rfl
              · intro hp
                have sg := hp 5 (by rfl)
                exact wpOp_skipR rfl (wanted_no rfl (yielded_at rfl sg) rfl) rfl
              · intro hp
                have sg := hp 5 (by rfl)
                exact wpOp_skipR rfl (wanted_no rfl (yielded_at rfl sg) rfl) rfl
              · intro hp
                have s42 := hp 5 (by rfl)
                change a.tmps.getD 42 undef = _ at s42
                simp at s42
                have s60 := hp 23 (by rfl)
                change a.tmps.getD 60 undef = _ at s60
                simp at s60
                clear hp
                refine wpOp_of_list rfl rfl ?_
                go_wp2_with fail
                exact ⟨_, rfl, rfl, (by repeat (first | exact kE | exact Ext.refl _ | apply Ext.alloc | apply Ext.drewN | apply Ext.drew | apply Ext.set0 | apply Ext.set1 | apply Ext.set2 | apply Ext.set3 | (refine Ext.setk ?_ (by omega) _) | (apply Ext.snoc; assumption)))⟩
            case XEfin =>
              intro X w7 hE7 hp
              obtain ⟨⟨⟨⟨⟨⟨⟨⟨⟨⟨⟨⟨⟨⟨⟨⟨⟨⟨⟨⟨⟨⟨⟨⟨⟨_, h0⟩, h1⟩, h2⟩, h3⟩, h4⟩, h5⟩, h6⟩, h7⟩, h8⟩, h9⟩, h10⟩, h11⟩, h12⟩, h13⟩, h14⟩, h15⟩, h16⟩, h17⟩, h18⟩, h19⟩, h20⟩, h21⟩, h22⟩, h23⟩, h24⟩ := hp
              change X 0 = _ at h0
              change X 1 = _ at h1
              change X 2 = _ at h2
              change X 3 = _ at h3
              change X 4 = _ at h4
              change X 5 = _ at h5
              change X 6 = _ at h6
              change X 7 = _ at h7
              change X 8 = _ at h8
              change X 9 = _ at h9
              change X 10 = _ at h10
              change X 11 = _ at h11
              change X 12 = _ at h12
              change X 13 = _ at h13
              change X 14 = _ at h14
              change X 15 = _ at h15
              change X 16 = _ at h16
              change X 17 = _ at h17
              change X 18 = _ at h18
              change X 19 = _ at h19
              change X 20 = _ at h20
              change X 21 = _ at h21
              change X 22 = _ at h22
              change X 23 = _ at h23
              change X 24 = _ at h24
              simp only [List.drop_succ_cons, List.drop_nil]
              refine wpList_nil ?_
              go_simp
              have HF7 := hide (HF.out.ext hE7)
              have HE7 := hide (HE.out.trans hE7)
              clear hbv hE7
              have hnx := HNX.out
              go_wp2_with fail
              clear hnx
              go_roundw
              case rel => exact ⟨(p - 1) &&& s, by omega, hide HNS.out, (by first | rfl | rw [HNX.out]), ⟨f, v, HF7.out, hfs, hT, HS⟩, HE7.out⟩
              case measure => (try rw [HNX.out]); simp [intOf]; omega
        · obtain rfl : p = 0 := by omega
          have HD := hide (hrun.out.done HFB.out HLX.out hT.out hl HRM.out HC.out)
          clear hE
          go_wp2_with fail
          go_roundw
          case rel =>
            refine ⟨s + 1, by omega, by omega, by go_num, ⟨f, HF.out, hide (fun t ht => ?_)⟩, HE.out⟩
            by_cases e : t = s
            · subst e
              rw [hfs.out]
              exact HD.out
            · exact hT.out t (by omega)
          case measure => simp [intOf]; omega
    · obtain rfl : s = N := by omega
      have hbest := hT.out (s - 1) (by omega)
      have e1 : elems L (s - 1) = L := by have := elems_full L; rwa [HN.out] at this
      rw [e1] at hbest
      obtain ⟨v, hv⟩ : ∃ v, f (s - 1) = v := ⟨_, rfl⟩
      rw [hv] at hbest
      have d1 : wr.cell? ⟨w.heap.size, s - 1, none⟩ = some (.int .i64 v) := (HF.out.cell (s - 1)).trans (by rw [rowOf_get _ (by omega), hv])
      have HBEST := hide hbest
      have HQ0 := hide (show wrap64 ((s : Int) - 1) = (s : Int) - 1 from IntWalk.wrap64_in _ (by omega))
      have q1 : (0 : Int) ≤ (s : Int) - 1 := by omega
      have q2 : (s : Int) - 1 < s := by omega
      have q3 : ((s : Int) - 1).toNat = s - 1 := by omega
      clear hbest hv e1
      have q0 := HQ0.out
      go_wp2_with fail
      go_ret
      exact ⟨v, rfl, HBEST.out, HE.out⟩
end Go.Proofs.Ytndbbdbnimmcoaa
