/- The walks of FirstAssembly (both forms). No condition but that a list has at most 1048576 elements. -/
import Derived.Test.YtabgcpoaepafjaaGrow
import Derived.Test.YtabgcpoaepafjaaOut
set_option linter.unusedSimpArgs false
set_option linter.unusedVariables false
namespace Go.Proofs.Ytabgcpoaepafjaa
open Go.RowKit

def castN (l : List Nat) : List Int := l.map fun x : Nat => (x : Int)
theorem castN_length (l : List Nat) : (castN l).length = l.length := by simp [castN]
theorem castN_snoc (l : List Nat) (f : Nat) : castN (l ++ [f]) = castN l ++ [(f : Int)] := by simp [castN]
theorem castN_get (l : List Nat) {k : Nat} (h : k < l.length) : (encI (castN l))[k]? = some (.int .i64 ((l[k] : Nat) : Int)) := by simp [castN, encI, h]
def lenV : Value → Nat
  | .slice _ m _ => m
  | _ => 0
def bitV : Value → Nat
  | .bool true => 1
  | _ => 0
theorem firstV_len {N E : List P2} {x : Int} : (firstV N E x).length ≤ 1048576 := by
  unfold firstV
  split
  · rename_i h
    unfold firstOk at h
    simp only [Bool.and_eq_true] at h
    obtain ⟨h1, h2, _⟩ := h
    have h3 := inR_true h2
    have hl := fcs_len (N := N) (E := E)
    have hs := OnWay.start (b := besTo (sd N E) E.length) (n := (fcs N E).length) (o := oN N E) (f := x.toNat) (by omega)
    unfold firstL
    rw [List.length_map]
    have : ∀ (k : Nat) (l : List Nat), (growL (besTo (sd N E) E.length) (fcs N E).length (oN N E) k l).length ≤ l.length + k := fun k => by
      induction k with
      | zero => intro l; exact Nat.le_refl _
      | succ k ih =>
        intro l
        simp only [growL]
        split
        · omega
        · rename_i f _
          have := ih (l ++ [f])
          simp at this
          omega
    have := this (fcs N E).length [x.toNat]
    simp at this
    omega
  · simp
theorem firstV_ok {N E : List P2} {x : Int} (h : firstOk N E x = true) : firstV N E x = firstL N E x.toNat := by unfold firstV; rw [if_pos h]
theorem firstV_no {N E : List P2} {x : Int} (h : firstOk N E x = false) : firstV N E x = [] := by unfold firstV; rw [if_neg (by simp [h])]
theorem in_face {f : Int} {n : Nat} (h : inR f 0 ((n : Int) - 1) = true) : ∃ k : Nat, f = (k : Nat) ∧ k < n := by
  have := inR_true h
  exact ⟨f.toNat, by omega, by omega⟩
theorem ret_first {A A' : Option Addr} {n m c : Nat} {x y : Bool} (h1 : n = m) (h2 : x = y) : Ending.returned (.tuple #[.slice A n c, .bool x]) = .returned (.tuple #[.slice A m c, .bool y]) := by rw [h1, h2]
set_option maxRecDepth 20000 in
set_option maxHeartbeats 4000000 in
theorem FirstAssembly_any (N E : List P2) (A B : Option Addr) (c c' : Nat) (x1 : Int) (w : World) (hw : WR w N E A B c c') :
    Calls Try.prog 27 #[.agg #[.slice A N.length c, .slice B E.length c'], .int .i64 x1] w fun e w' => ∃ A2 c2, e = .returned (.tuple #[.slice A2 (firstV N E x1).length c2, .bool (firstOk N E x1)]) ∧ w'.ownsRow w.heap.size 3 1 (.slice A2 (firstV N E x1).length c2) (firstV N E x1).length (encI (firstV N E x1)) ∧ Ext w w' := by
  obtain ⟨i0, hi, hz0, hz1, hz2⟩ := info_parts int_info
  have HW := hide hw
  have HVN := hide (fun h => firstV_no (N := N) (E := E) (x := x1) h)
  have HVY := hide (fun h => firstV_ok (N := N) (E := E) (x := x1) h)
  obtain ⟨v, hv⟩ : ∃ v, firstV N E x1 = v := ⟨_, rfl⟩
  obtain ⟨ok, hok⟩ : ∃ ok, firstOk N E x1 = ok := ⟨_, rfl⟩
  have HOK := hide hok
  rw [hv, hok] at HVN HVY
  rw [hv, hok]
  clear hw hv hok
  
  go_enter Try.func27, Try.ntmps27
  go_wp2_with fail
  obtain ⟨w0, hw⟩ : ∃ w1, w1 = w.alloc (Obj.cells #[Value.slice A N.length c, Value.slice B E.length c'] 27) := ⟨_, rfl⟩; rw [← hw]; have kT : Tr [(w.heap.size, [.slice A N.length c, .slice B E.length c'])] w w0 := (by rw [hw]; exact ⟨by (first | (simp [Bx, CellsAt, go_sem, *]; done) | (simp [Bx, CellsAt, go_sem, *]; omega)), by (repeat (first | exact kE | exact Ext.refl _ | apply Ext.alloc | apply Ext.drewN | apply Ext.drew | apply Ext.set0 | apply Ext.set1 | apply Ext.set2 | apply Ext.set3 | (refine Ext.setk ?_ (by omega) _) | (apply Ext.snoc; assumption)))⟩); have HT := hide kT; clear hw kT; have kT := HT.out; simp only [Tr, Bx, CellsAt, Nat.reduceAdd, Nat.zero_add, and_true] at kT; obtain ⟨⟨kz0, kf0, kc0_0, kc0_1⟩, kE⟩ := kT
  have HC := IsWhole_any N E A B c c' w0 (HW.out.ext kE)
  refine HC.mono ?_
  rintro e w2 ⟨rfl, hb2⟩
  have HT' := hide (HT.out.ext hb2)
  clear hb2 HT
  have HT := HT'
  clear HT'
  clear kz0 kf0 kc0_0 kc0_1 kE
  have kT := HT.out; simp only [Tr, Bx, CellsAt, Nat.reduceAdd, Nat.zero_add, and_true] at kT; obtain ⟨⟨kz0, kf0, kc0_0, kc0_1⟩, kE⟩ := kT
  have HW2 := hide kE
  cases hwh : wholeB N E with
  | false =>
    have HOF := hide (show ok = false by rw [← HOK.out]; unfold firstOk; rw [hwh]; rfl)
    clear hwh
    go_wp2_with fail
    refine bodyPost_ret (v := .tuple #[.slice none 0 0, .bool false]) (by simp only [results, Try.results27]; go_simp) rfl ⟨none, 0, by rw [HVN.out HOF.out, HOF.out]; rfl, by rw [HVN.out HOF.out]; exact World.ownsRow_nil _ _ _ _, HW2.out⟩
  | true =>
    have hon := (outer_nat hwh).2
    have hoe := (outer_nat hwh).1
    have hl40 := fcs_len (N := N) (E := E)
    have HOK2 := hide (show ok = (inR x1 0 (((fcs N E).length : Int) - 1) && asmB N E (firstL N E x1.toNat)) by rw [← HOK.out]; unfold firstOk; rw [hwh]; rfl)
    have HFO := hide ((FacesOf_any N E A B c c' w2 (HW.out.ext kE)).mono (R' := fun e w' => ∃ A2 c2, e = .returned (.slice A2 (fcs N E).length c2) ∧ Ext w2 w') (by rintro e w' ⟨A2, c2, h1, _, _, _, _, h2⟩; exact ⟨A2, c2, h1, h2⟩))
    have HN := hide (fun (W : World) (hE : Ext w W) => neighbors_any N E A B c c' W (HW.out.ext hE) hwh)
    have HP := hide (fun (W : World) (hE : Ext w W) => OuterFace_any N E A B c c' W (HW.out.ext hE))
    have HAS := hide (fun (l : List Int) (C : Option Addr) (c3 : Nat) (W : World) (hE : Ext w W) (hl : l.length ≤ 1048576) (hr : RI W C l) => IsAssembly_any N E l A B C c c' c3 W (HW.out.ext hE) hl hr)
    have HWI := hide (fun (W : World) => within_any x1 0 (((fcs N E).length : Int) - 1) W)
    rw [hoe] at HP
    have hnb : ∀ f g, (nearV N E f).testBit g = besTo (sd N E) E.length f g := near_bit (sd N E) E.length
    have hnl : ∀ f, nearV N E f < 2 ^ (fcs N E).length := near_lt (sd_lt hwh) E.length
    have hbc := bes_comm (sd N E) E.length
    have hca : ∀ (l : List Nat) f, canG (besTo (sd N E) E.length) (oN N E) l f = _ := fun l f => canG_near (o := oN N E) hbc hnb
    have hFL : ∀ f, firstL N E f = castN (growL (besTo (sd N E) E.length) (fcs N E).length (oN N E) (fcs N E).length [f]) := fun f => rfl
    rw [hFL] at HOK2
    simp only [hFL] at HVY
    obtain ⟨n, hn⟩ : ∃ n, (fcs N E).length = n := ⟨_, rfl⟩
    obtain ⟨o, ho⟩ : ∃ o, oN N E = o := ⟨_, rfl⟩
    obtain ⟨nf, hnf⟩ : ∃ nf, nearV N E = nf := ⟨_, rfl⟩
    obtain ⟨b, hbb⟩ : ∃ b, besTo (sd N E) E.length = b := ⟨_, rfl⟩
    rw [hn, ho, hbb] at HOK2 HVY
    rw [hn] at hon hl40 HN HFO hnl HWI
    rw [ho] at hon HP hca
    rw [hnf] at hnl hca
    rw [hbb] at hca
    rw [show (fun f => ((nearV N E f : Nat) : Int)) = fun f => ((nf f : Nat) : Int) from by rw [hnf]] at HN
    have HNL := hide hnl
    have HCA := hide hca
    clear hwh hn ho hnf hbb hnb hnl hbc hca hFL hoe HOK
    have h40 : 2 ^ n ≤ 2 ^ 40 := Nat.pow_le_pow_right (by decide) hl40
    go_wp2_with fail
    refine HFO.out.mono ?_
    rintro e w3 ⟨A2, c2, rfl, hb3⟩
    have HT' := hide (HT.out.ext hb3)
    clear hb3 HT HFO
    have HT := HT'
    clear HT'
    clear kz0 kf0 kc0_0 kc0_1 kE
    have kT := HT.out; simp only [Tr, Bx, CellsAt, Nat.reduceAdd, Nat.zero_add, and_true] at kT; obtain ⟨⟨kz0, kf0, kc0_0, kc0_1⟩, kE⟩ := kT
    cases hin : inR x1 0 ((n : Int) - 1) with
    | false =>
      have HOF := hide (show ok = false by rw [HOK2.out, hin]; rfl)
      rw [hin] at HWI
      have HE3 := hide kE
      clear hin HOK2
      go_wp2_with (go_at_call 61; refine (HWI.out _).mono ?_; rintro e w' ⟨rfl, rfl⟩)
      refine bodyPost_ret (v := .tuple #[.slice none 0 0, .bool false]) (by simp only [results, Try.results27]; go_simp) rfl ⟨none, 0, by rw [HVN.out HOF.out, HOF.out]; rfl, by rw [HVN.out HOF.out]; exact World.ownsRow_nil _ _ _ _, HE3.out⟩
    | true =>
      obtain ⟨f0, rfl, hf0⟩ := in_face hin
      rw [hin] at HWI HOK2
      rw [Int.toNat_natCast] at HOK2 HVY
      obtain ⟨R, hR⟩ : ∃ R, growL b n o n [f0] = R := ⟨_, rfl⟩
      have HST := hide (OnWay.start (b := b) (o := o) hf0)
      rw [hR] at HOK2 HVY HST
      have HOKR := hide (show ok = asmB N E (castN R) by rw [HOK2.out]; rfl)
      clear hR hin HOK2
      go_wp2_with (go_at_call 61; refine (HWI.out _).mono ?_; rintro e w' ⟨rfl, rfl⟩)
      refine (HN.out _ kE).mono ?_
      rintro e w4 ⟨g, c4, rfl, hown, hb4⟩
      have HO4 := hide hown
      have HT' := hide (HT.out.ext hb4)
      clear HT HN hown hb4
      have HT := HT'
      clear HT'
      clear kz0 kf0 kc0_0 kc0_1 kE
      have kT := HT.out; simp only [Tr, Bx, CellsAt, Nat.reduceAdd, Nat.zero_add, and_true] at kT; obtain ⟨⟨kz0, kf0, kc0_0, kc0_1⟩, kE⟩ := kT
      go_wp2_with fail
      refine (HP.out _ kE).mono ?_
      rintro e w5 ⟨rfl, hb5⟩
      have HO5 := hide (own_ext HO4.out hb5)
      have HT' := hide (HT.out.ext hb5)
      clear HO4 HP hb5 HT
      have HT := HT'
      clear HT'
      clear kz0 kf0 kc0_0 kc0_1 kE
      have kT := HT.out; simp only [Tr, Bx, CellsAt, Nat.reduceAdd, Nat.zero_add, and_true] at kT; obtain ⟨⟨kz0, kf0, kc0_0, kc0_1⟩, kE⟩ := kT
      have HE5 := hide kE
      have HTZ := HT
      have sh0 := shl_one (show f0 < 62 by omega)
      rw [← wrap64_eq] at sh0
      have HSH0 := hide sh0
      clear sh0
      go_wp2_with fail
      clear kz0 kf0 kc0_0 kc0_1 kE
      clear HT
      have hown0 := World.ownsRow_lit (base := w5.heap.size) (e := 3) (size := 1) w5 #[.int .i64 (f0 : Int)] 1 (Nat.le_refl _) (by decide) rfl
      go_loopw [8, 9, 10] (fun v s fd wr => ∃ l : List Nat, s = .int .i64 (maskL l : Nat) ∧ (fd = .bool true ∨ (fd = .bool false ∧ Hid (nextTo b o l n = none))) ∧ Hid (OnWay b n o R l) ∧ Hid (wr.ownsRow w5.heap.size 3 1 v l.length (encI (castN l))) ∧ Hid (Ext w5 wr)) (fun v _ fd _ => n - lenV v + bitV fd)
      case atStart => exact ⟨[f0], by rw [maskL_one, ← HSH0.out], .inl rfl, HST, hown0, hide ((Ext.refl w5).alloc _)⟩
      case round =>
        clear hown0
        obtain ⟨l, rfl, hfd, HON, HO, HG⟩ := hrel
        have hSl : maskL l < 2 ^ n := maskL_lt HON.out.lt
        have HMS := hide (fun f => maskL_snoc l f)
        have hlen := HON.out.len
        obtain ⟨S, hS⟩ : ∃ S, maskL l = S := ⟨_, rfl⟩
        rw [hS] at hSl HMS
        have HCL := hide (fun f => by have h := HCA.out l f; rw [hS] at h; exact h)
        rw [hS]
        have HSE := hide hS
        clear hS
        rcases hfd with rfl | ⟨rfl, HNO⟩
        · obtain ⟨wo, rfl⟩ : ∃ wo : World, wo = wr := ⟨_, rfl⟩
          obtain ⟨A', c5, e1, _⟩ := own_slice HO.out
          subst e1
          go_wp2_with fail
          go_loopw [8, 9, 10, 35] (fun v s fd i wi => ∃ j : Nat, j ≤ n ∧ i = .int .i64 j ∧ v = .slice A' l.length c5 ∧ s = .int .i64 (S : Nat) ∧ fd = .bool false ∧ Hid (nextTo b o l j = none) ∧ Hid (wi = wo)) (fun _ _ _ i _ => n - (intOf i).toNat)
          case atStart => exact ⟨0, Nat.zero_le _, rfl, rfl, rfl, rfl, hide rfl, hide rfl⟩
          case round =>
            obtain ⟨j, hj, rfl, rfl, rfl, rfl, HNJ, HWW⟩ := hrel
            obtain rfl := HWW.out
            clear HWW
            by_cases hlt : j < n
            · have hlj : (j : Int) < (n : Int) := by omega
              have HCJ := hide (HCL.out j)
              have HMI := hide (fun h => nextTo_miss (b := b) (o := o) (l := l) (j := j) HNJ.out h)
              have HHI := hide (fun h => nextTo_hit (b := b) (o := o) (l := l) (j := j) HNJ.out h n hlt)
              have cn := own_cellR (own_ext HO5.out HG.out) hlt
              have bS := bit_at S j (by omega)
              have b2 := i64_and (nf j) S (by have := HNL.out j; omega) (by omega)
              obtain ⟨y, hy⟩ : ∃ y, nf j &&& S = y := ⟨_, rfl⟩
              obtain ⟨q, hq⟩ : ∃ q, nf j = q := ⟨_, rfl⟩
              rw [hy] at b2 HCJ
              rw [hq] at b2 cn
              clear hy hq
              by_cases hjo : j = o
              · have HC0 := hide (HMI.out (by rw [HCJ.out, decide_eq_false (by simp [hjo])]; rfl))
                have q1 : ((j : Int) != (o : Int)) = false := by simp [hjo]
                have q2 : (j != o) = false := by simp [hjo]
                clear hjo HHI HMI bS b2 cn
                go_wp2_with fail
                go_roundw
                case rel => exact ⟨j + 1, by omega, by go_num, rfl, rfl, rfl, HC0, by first | exact hide rfl | exact hide trivial⟩
                case measure => simp [intOf]; omega
              · have q1 : ((j : Int) != (o : Int)) = true := by simp; omega
                have q2 : (j != o) = true := by simp [hjo]
                cases hbS : S.testBit j with
                | true =>
                  rw [hbS, if_pos rfl] at bS
                  have HC0 := hide (HMI.out (by rw [HCJ.out, hbS]; simp))
                  clear hjo HHI HMI hbS b2 cn
                  go_wp2_with fail
                  go_roundw
                  case rel => exact ⟨j + 1, by omega, by go_num, rfl, rfl, rfl, HC0, by first | exact hide rfl | exact hide trivial⟩
                  case measure => simp [intOf]; omega
                | false =>
                  have bS' : bits .and .i64 ((S : Int) / 2 ^ j) 1 = 0 := by rw [bS, hbS]; rfl
                  clear bS
                  by_cases hy0 : y = 0
                  · have HC0 := hide (HMI.out (by rw [HCJ.out, decide_eq_false (show ¬ (y ≠ 0) by simp [hy0])]; simp))
                    have b2' : bits .and .i64 (q : Int) (S : Int) = 0 := by rw [b2, hy0]; rfl
                    clear hjo HHI HMI hbS b2 hy0
                    go_wp2_with fail
                    go_roundw
                    case rel => exact ⟨j + 1, by omega, by go_num, rfl, rfl, rfl, HC0, by first | exact hide rfl | exact hide trivial⟩
                    case measure => simp [intOf]; omega
                  · have HHIT := hide (HHI.out (by rw [HCJ.out, hbS, decide_eq_true hjo, decide_eq_true hy0]; rfl))
                    have HON2 := hide (HON.out.next HHIT.out)
                    have hroom := HON.out.room HHIT.out
                    have q3 : ((y : Int) != 0) = true := by simp [hy0]
                    have q4 : (y != 0) = true := by simp [hy0]
                    have b3 := or_shl (u := S) (f := j) (by omega) (by omega)
                    rw [← wrap64_eq] at b3
                    have HMJ := hide (HMS.out j)
                    obtain ⟨z, hz⟩ : ∃ z, S ||| 2 ^ j = z := ⟨_, rfl⟩
                    rw [hz] at b3 HMJ
                    have hsz := HG.out.size
                    clear hjo HHI HMI hbS hy0 hz HHIT
                    go_wp2_with (at_builtin; refine wpList_append_own _ rfl _ _ 29 rfl w5.heap.size 3 i0 (.int .i64 0) 1 8 Try.underlying29 hi hz0 hz1 hz2 rfl (by decide) (.slice A' l.length c5) l.length (encI (castN l)) rfl (own_ext HO.out ((Ext.refl _).alloc _)) ⟨wr.heap.size, 0, none⟩ 1 1 [.int .i64 (j : Int)] rfl rfl (news_new wr #[.int .i64 (j : Int)] 3) (enc_one _) (by unfold maxLen; omega) (by omega) (by first | (simp; done) | (simp; omega)) ?_; intro v' w6 hown6 hgrow6 hnil)
                    have E6 := hide (Ext.grown (HG.out.alloc _) hgrow6 (own_base HO.out (Nat.le_refl _)))
                    have ho6 := hide (show w6.ownsRow w5.heap.size 3 1 v' (l ++ [j]).length (encI (castN (l ++ [j]))) from by
                      rw [castN_snoc, encI_append, List.length_append]
                      exact hown6)
                    have HLV := hide (show lenV v' = l.length + 1 from by
                      obtain ⟨A9, c9, e9, _⟩ := own_slice hown6
                      rw [e9]
                      rfl)
                    clear hown6 hgrow6 hnil bS' b2 b3 cn
                    go_roundw
                    case rel => exact ⟨l ++ [j], by rw [HMJ.out], .inl rfl, HON2, ho6, E6⟩
                    case measure =>
                      have h9 := HLV.out
                      simp [lenV, bitV] at h9 ⊢
                      omega
            · have HD := hide (show nextTo b o l n = none by rw [show n = j by omega]; exact HNJ.out)
              obtain rfl : j = n := by omega
              go_wp2_with fail
              go_roundw
              case rel => exact ⟨l, by rw [HSE.out], .inr ⟨rfl, HD⟩, HON, HO, HG⟩
              case measure => simp [lenV, bitV]
        · have HLR := hide (HON.out.done HNO.out)
          obtain ⟨A', c5, e1, _⟩ := own_slice HO.out
          subst e1
          have HT := hide (HTZ.out.ext HG.out)
          have kT := HT.out; simp only [Tr, Bx, CellsAt, Nat.reduceAdd, Nat.zero_add, and_true] at kT; obtain ⟨⟨kz0, kf0, kc0_0, kc0_1⟩, kE⟩ := kT
          have HX := hide kE
          have hRL := Rds.of_own HO.out
          rw [← castN_length l] at hRL
          have HRL := hide hRL
          have hal := HAS.out (castN l) A' c5 wr kE (by rw [castN_length]; omega) hRL
          rw [castN_length] at hal
          have HAL := hide hal
          clear hRL hal HNO
          have HOK3 := hide (show ok = asmB N E (castN l) by rw [HLR.out]; exact HOKR.out)
          obtain ⟨v9, hv9⟩ : ∃ v9, asmB N E (castN l) = v9 := ⟨_, rfl⟩
          rw [hv9] at HAL HOK3
          clear hv9
          cases v9 with
          | false =>
            go_wp2_with fail
            refine HAL.out.mono ?_
            rintro e w6 ⟨rfl, hb6⟩
            have HE6 := hide (HX.out.trans hb6)
            clear hb6
            go_wp2_with fail
            refine bodyPost_ret (v := .tuple #[.slice none 0 0, .bool false]) (by simp only [results, Try.results27]; go_simp) rfl ⟨none, 0, by rw [HVN.out HOK3.out, HOK3.out]; rfl, by rw [HVN.out HOK3.out]; exact World.ownsRow_nil _ _ _ _, HE6.out⟩
          | true =>
            have HVV := hide (show v = castN l by rw [HLR.out]; exact HVY.out HOK3.out)
            go_wp2_with fail
            refine HAL.out.mono ?_
            rintro e w6 ⟨rfl, hb6⟩
            have HE6 := hide (HX.out.trans hb6)
            have HO6 := hide (own_ext HO.out hb6)
            clear hb6
            go_wp2_with fail
            refine bodyPost_ret (v := .tuple #[.slice A' l.length c5, .bool true]) (by simp only [results, Try.results27]; go_simp) rfl ⟨A', c5, by rw [HVV.out, HOK3.out, castN_length], ?_, HE6.out⟩
            rw [HVV.out, castN_length]
            exact own_mono HO6.out HE5.out.size
end Go.Proofs.Ytabgcpoaepafjaa
