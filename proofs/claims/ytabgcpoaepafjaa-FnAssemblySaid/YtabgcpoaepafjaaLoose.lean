/- Walks of LooseAfter (both forms). No condition but that a list has at most 1048576 elements. -/
import Derived.Test.YtabgcpoaepafjaaJoined
set_option linter.unusedSimpArgs false
set_option linter.unusedVariables false
namespace Go.Proofs.Ytabgcpoaepafjaa
open Go.RowKit

/-- The panes of a set that leave a set that hangs together, or none. -/
def looseP (b : Nat → Nat → Bool) (s n f : Nat) : Bool := decide (s = 2 ^ f) || joinedB b (s - 2 ^ f) n
def looseN (b : Nat → Nat → Bool) (s n : Nat) : List Nat := (memN s n).filter (looseP b s n)
noncomputable def looseV (N E : List P2) (set : Int) : List Int := if joinedI N E set = true then (looseN (besTo (sd N E) E.length) set.toNat (fcs N E).length).map (fun x : Nat => (x : Int)) else []
theorem looseN_len (b : Nat → Nat → Bool) (s n : Nat) : (looseN b s n).length ≤ n := Nat.le_trans (List.length_filter_le _ _) (memN_length s n)
theorem looseV_len {N E : List P2} {set : Int} : (looseV N E set).length ≤ 1048576 := by
  unfold looseV
  split
  · have h1 := looseN_len (besTo (sd N E) E.length) set.toNat (fcs N E).length
    have h2 := fcs_len (N := N) (E := E)
    simp
    omega
  · simp
theorem joinedI_yes {N E : List P2} {set : Int} (h : joinedI N E set = true) : ∃ s : Nat, set = (s : Nat) ∧ s ≠ 0 ∧ s < 2 ^ (fcs N E).length ∧ 1 ≤ (fcs N E).length ∧ (fcs N E).length ≤ 20 ∧ s.testBit (oN N E) = false := by
  unfold joinedI at h
  simp only [Bool.and_eq_true, decide_eq_true_eq, Bool.not_eq_true'] at h
  obtain ⟨h1, h2, h3, h4, _⟩ := h
  obtain ⟨s, rfl, h5, h6⟩ := in_nat h3
  exact ⟨s, rfl, h5, h6, h1, h2, by simpa using h4⟩
theorem lessBit {s k : Nat} (hb : s.testBit k = true) (i : Nat) : (s - 2 ^ k).testBit i = (s.testBit i && !decide (i = k)) := by
  rw [← xor_sub (bit_sub hb), Nat.testBit_xor, Nat.testBit_two_pow]
  by_cases e : k = i
  · subst e
    simp [hb]
  · have : ¬ i = k := fun q => e q.symm
    simp [e, this]
theorem bit_less_ne {s f : Nat} (hb : s.testBit f = true) (hne : s ≠ 2 ^ f) : s - 2 ^ f ≠ 0 := by
  have := sub_le (bit_sub hb)
  omega
theorem joinedI_less {N E : List P2} {s f : Nat} (h : joinedI N E (s : Nat) = true) (hb : s.testBit f = true) (hne : s ≠ 2 ^ f) : joinedI N E ((s - 2 ^ f : Nat) : Int) = joinedB (besTo (sd N E) E.length) (s - 2 ^ f) (fcs N E).length := by
  obtain ⟨s', e, h0, h1, h2, h3, h4⟩ := joinedI_yes h
  obtain rfl : s = s' := by omega
  have h5 := bit_less_ne hb hne
  have h6 : (s - 2 ^ f).testBit (oN N E) = false := by rw [lessBit hb, h4]; rfl
  unfold joinedI
  rw [decide_eq_true h2, decide_eq_true h3, Int.toNat_natCast, h6]
  have h7 : inR ((s - 2 ^ f : Nat) : Int) 1 ((2 ^ (fcs N E).length - 1 : Nat) : Int) = true := by
    obtain ⟨x, hx⟩ : ∃ x, s - 2 ^ f = x := ⟨_, rfl⟩
    obtain ⟨y, hy⟩ : ∃ y, 2 ^ (fcs N E).length = y := ⟨_, rfl⟩
    have h8 := Nat.sub_le s (2 ^ f)
    rw [hx] at h5 h8 ⊢
    rw [hy] at h1 ⊢
    simp only [inR, Bool.and_eq_true, decide_eq_true_eq]
    omega
  rw [h7]
  rfl
theorem looseV_yes {N E : List P2} {s : Nat} (h : joinedI N E (s : Nat) = true) : looseV N E (s : Nat) = (looseN (besTo (sd N E) E.length) s (fcs N E).length).map (fun x : Nat => (x : Int)) := by
  unfold looseV
  rw [if_pos h, Int.toNat_natCast]
theorem looseV_no {N E : List P2} {set : Int} (h : joinedI N E set = false) : looseV N E set = [] := by
  unfold looseV
  rw [if_neg (by rw [h]; simp)]
def castL (l : List Nat) : List Int := l.map fun x : Nat => (x : Int)
theorem castL_length (l : List Nat) : (castL l).length = l.length := by simp [castL]
theorem castL_snoc (l : List Nat) (f : Nat) : castL (l ++ [f]) = castL l ++ [(f : Int)] := by simp [castL]
theorem filter_take_yes {l : List Nat} {p : Nat → Bool} {k : Nat} (hk : k < l.length) (h : p l[k] = true) : castL ((l.take (k + 1)).filter p) = castL ((l.take k).filter p) ++ [(l[k] : Int)] := by
  rw [List.take_succ_eq_append_getElem hk, List.filter_append]
  simp [h, castL]
theorem filter_take_no {l : List Nat} {p : Nat → Bool} {k : Nat} (hk : k < l.length) (h : p l[k] = false) : castL ((l.take (k + 1)).filter p) = castL ((l.take k).filter p) := by
  rw [List.take_succ_eq_append_getElem hk, List.filter_append]
  simp [h, castL]
set_option maxRecDepth 20000 in
set_option maxHeartbeats 4000000 in
theorem LooseAfter_any (N E : List P2) (A B : Option Addr) (c c' : Nat) (set : Int) (w : World) (hw : WR w N E A B c c') :
    Calls Try.prog 28 #[.agg #[.slice A N.length c, .slice B E.length c'], .int .i64 set] w fun e w' => ∃ A2 c2, e = .returned (.slice A2 (looseV N E set).length c2) ∧ w'.ownsRow w.heap.size 3 1 (.slice A2 (looseV N E set).length c2) (looseV N E set).length (encI (looseV N E set)) ∧ Ext w w' := by
  obtain ⟨i0, hi, hz0, hz1, hz2⟩ := info_parts int_info
  have HJ := hide (fun (q : Int) (W : World) (hE : Ext w W) => AreJoined_any N E A B c c' q W (hw.ext hE))
  cases hj : joinedI N E set with
  | false =>
    rw [looseV_no hj]
    have HC := hide (fun (W : World) (hE : Ext w W) => by have h := HJ.out set W hE; rw [hj] at h; exact h)
    clear hw hj HJ
    
    go_enter Try.func28, Try.ntmps28
    go_wp2_with fail
    obtain ⟨w0, hw⟩ : ∃ w1, w1 = w.alloc (Obj.cells #[Value.slice A N.length c, Value.slice B E.length c'] 27) := ⟨_, rfl⟩; rw [← hw]; have kT : Tr [(w.heap.size, [.slice A N.length c, .slice B E.length c'])] w w0 := (by rw [hw]; exact ⟨by (first | (simp [Bx, CellsAt, go_sem, *]; done) | (simp [Bx, CellsAt, go_sem, *]; omega)), by (repeat (first | exact kE | exact Ext.refl _ | apply Ext.alloc | apply Ext.drewN | apply Ext.drew | apply Ext.set0 | apply Ext.set1 | apply Ext.set2 | apply Ext.set3 | (refine Ext.setk ?_ (by omega) _) | (apply Ext.snoc; assumption)))⟩); have HT := hide kT; clear hw kT; have kT := HT.out; simp only [Tr, Bx, CellsAt, Nat.reduceAdd, Nat.zero_add, and_true] at kT; obtain ⟨⟨kz0, kf0, kc0_0, kc0_1⟩, kE⟩ := kT
    refine (HC.out _ kE).mono ?_
    rintro e w2 ⟨rfl, hb2⟩
    have HE2 := hide (kE.trans hb2)
    clear hb2
    go_wp2_with fail
    go_ret
    exact ⟨none, 0, rfl, World.ownsRow_nil _ _ _ _, HE2.out⟩
  | true =>
    obtain ⟨s, rfl, hs0, hsn, hn1, hn20, _⟩ := joinedI_yes hj
    have HC := hide (fun (W : World) (hE : Ext w W) => by have h := HJ.out s W hE; rw [hj] at h; exact h)
    have HL := hide (fun (f : Nat) (hb : s.testBit f = true) (hne : s ≠ 2 ^ f) (W : World) (hE : Ext w W) => by have h := HJ.out ((s - 2 ^ f : Nat) : Int) W hE; rw [joinedI_less hj hb hne] at h; exact h)
    obtain ⟨V, hV⟩ : ∃ V, looseV N E (s : Nat) = V := ⟨_, rfl⟩
    have HV := hide (hV.symm.trans (looseV_yes hj))
    rw [hV]
    have HMO := hide (fun (W : World) => membersOf_any s (fcs N E).length W hsn (by omega))
    obtain ⟨n, hn⟩ : ∃ n, (fcs N E).length = n := ⟨_, rfl⟩
    obtain ⟨b, hbb⟩ : ∃ b, besTo (sd N E) E.length = b := ⟨_, rfl⟩
    rw [hn] at hsn hn20 HL HMO HV
    rw [hbb] at HL HV
    have hp20 : 2 ^ n ≤ 2 ^ 20 := Nat.pow_le_pow_right (by decide) hn20
    have HS := hide hsn
    have HVV := hide (show V = castL (looseN b s n) from HV.out)
    have hml := memN_length s n
    have hmI := memI_length s n
    have HMEM := hide (fun k (hk : k < (memN s n).length) => memN_mem.1 (List.getElem_mem hk))
    have HGET := hide (fun (k : Nat) => (show (memI s n)[k]? = (memN s n)[k]?.map fun x : Nat => (x : Int) by simp [memI]))
    have HFY := hide (fun k (hk : k < (memN s n).length) h => filter_take_yes (p := looseP b s n) hk h)
    have HFN := hide (fun k (hk : k < (memN s n).length) h => filter_take_no (p := looseP b s n) hk h)
    have HFL := hide (fun k => (show (castL (((memN s n).take k).filter (looseP b s n))).length ≤ n by rw [castL_length]; exact Nat.le_trans (List.length_filter_le _ _) (by simp; omega)))
    have HFE := hide (show castL (((memN s n).take (memN s n).length).filter (looseP b s n)) = V by rw [List.take_length]; exact HVV.out.symm)
    have HFZ := hide (show castL (((memN s n).take 0).filter (looseP b s n)) = [] by simp [castL])
    obtain ⟨F, hF⟩ : ∃ F : Nat → List Int, (fun k => castL (((memN s n).take k).filter (looseP b s n))) = F := ⟨_, rfl⟩
    have hFk : ∀ k, castL (((memN s n).take k).filter (looseP b s n)) = F k := fun k => congrFun hF k
    simp only [hFk] at HFY HFN HFL HFE HFZ
    clear hw hj HJ hn hbb hV hF hFk HV hs0 hn1
    obtain ⟨m, hm⟩ : ∃ m, memN s n = m := ⟨_, rfl⟩
    rw [hm] at hml hmI HMEM HGET HFY HFN HFE
    rw [hmI] at HMO
    have HMI := hide (show (memI s n).length = m.length from hmI)
    obtain ⟨mi, hmi⟩ : ∃ mi, memI s n = mi := ⟨_, rfl⟩
    rw [hmi] at HMO
    have HGET' := hide (fun (k : Nat) (hk : k < m.length) => (show mi[k]? = some ((m[k] : Nat) : Int) by rw [← hmi, HGET.out k, List.getElem?_eq_getElem hk]; rfl))
    clear hm hmi hmI HGET HMI
    
    go_enter Try.func28, Try.ntmps28
    go_wp2_with fail
    obtain ⟨w0, hw⟩ : ∃ w1, w1 = w.alloc (Obj.cells #[Value.slice A N.length c, Value.slice B E.length c'] 27) := ⟨_, rfl⟩; rw [← hw]; have kT : Tr [(w.heap.size, [.slice A N.length c, .slice B E.length c'])] w w0 := (by rw [hw]; exact ⟨by (first | (simp [Bx, CellsAt, go_sem, *]; done) | (simp [Bx, CellsAt, go_sem, *]; omega)), by (repeat (first | exact kE | exact Ext.refl _ | apply Ext.alloc | apply Ext.drewN | apply Ext.drew | apply Ext.set0 | apply Ext.set1 | apply Ext.set2 | apply Ext.set3 | (refine Ext.setk ?_ (by omega) _) | (apply Ext.snoc; assumption)))⟩); have HT := hide kT; clear hw kT; have kT := HT.out; simp only [Tr, Bx, CellsAt, Nat.reduceAdd, Nat.zero_add, and_true] at kT; obtain ⟨⟨kz0, kf0, kc0_0, kc0_1⟩, kE⟩ := kT
    refine (HC.out _ kE).mono ?_
    rintro e w2 ⟨rfl, hb2⟩
    have HT' := hide (HT.out.ext hb2)
    clear hb2 HT
    have HT := HT'
    clear HT'
    clear kz0 kf0 kc0_0 kc0_1 kE
    have kT := HT.out; simp only [Tr, Bx, CellsAt, Nat.reduceAdd, Nat.zero_add, and_true] at kT; obtain ⟨⟨kz0, kf0, kc0_0, kc0_1⟩, kE⟩ := kT
    go_wp2_with fail
    refine (HMO.out _).mono ?_
    rintro e w3 ⟨A3, c3, rfl, ho3, hb3⟩
    have HR3 := hide (Rds.of_own ho3)
    have HT' := hide (HT.out.ext hb3)
    clear ho3 hb3 HT
    have HT := HT'
    clear HT'
    clear kz0 kf0 kc0_0 kc0_1 kE
    have kT := HT.out; simp only [Tr, Bx, CellsAt, Nat.reduceAdd, Nat.zero_add, and_true] at kT; obtain ⟨⟨kz0, kf0, kc0_0, kc0_1⟩, kE⟩ := kT
    have HTZ := HT
    have HW3 := hide kE
    go_wp2_with fail
    clear kz0 kf0 kc0_0 kc0_1 kE
    clear HT
    go_loopw [5, 16] (fun v i wr => ∃ k : Nat, k ≤ m.length ∧ i = .int .i64 k ∧ Hid (wr.ownsRow w3.heap.size 3 1 v (F k).length (encI (F k))) ∧ Hid (Ext w3 wr)) (fun _ i _ => m.length - (intOf i).toNat)
    case atStart => exact ⟨0, Nat.zero_le _, rfl, hide (by rw [HFZ.out]; exact World.ownsRow_nil _ _ _ _), hide (Ext.refl _)⟩
    case round =>
      obtain ⟨k, hk, rfl, HO, HE⟩ := hrel
      by_cases hlt : k < m.length
      · have HT := hide (HTZ.out.ext HE.out)
        have kT := HT.out; simp only [Tr, Bx, CellsAt, Nat.reduceAdd, Nat.zero_add, and_true] at kT; obtain ⟨⟨kz0, kf0, kc0_0, kc0_1⟩, kE⟩ := kT
        have HX := hide kE
        have hlz : (k : Int) < (m.length : Int) := by omega
        have hsz := HE.out.size
        have hFl := HFL.out k
        obtain ⟨b3, off, rfl, hb3, hc3⟩ := (HR3.out.ext HE.out).2 (by omega)
        have cj := hc3 k _ (show (encI mi)[k]? = some (.int .i64 ((m[k] : Nat) : Int)) by simp [encI, HGET'.out k hlt])
        clear hc3
        obtain ⟨hfn, hbit⟩ := HMEM.out k hlt
        have HY := hide (HFY.out k hlt)
        have HN := hide (HFN.out k hlt)
        obtain ⟨f, hf⟩ : ∃ f, m[k] = f := ⟨_, rfl⟩
        rw [hf] at cj hfn hbit HY HN
        have hpf := Nat.pow_lt_pow_right (show 1 < 2 by decide) hfn
        have hle := sub_le (bit_sub hbit)
        have sh := shl_one (show f < 62 by omega)
        rw [← wrap64_eq] at sh
        have hp62 : 2 ^ f < 2 ^ 62 := Nat.lt_of_lt_of_le hpf (Nat.le_trans hp20 (by decide))
        have hs62 : s < 2 ^ 62 := Nat.lt_of_lt_of_le hsn (Nat.le_trans hp20 (by decide))
        have han := i64_andNot s (2 ^ f) hs62 hp62
        rw [show s ^^^ (s &&& 2 ^ f) = s - 2 ^ f from by rw [Nat.and_comm, bit_sub hbit, xor_sub (bit_sub hbit)]] at han
        have HLF := hide (HL.out f hbit)
        have HLP := hide (show looseP b s n f = (decide (s = 2 ^ f) || joinedB b (s - 2 ^ f) n) from rfl)
        clear hf hbit hp62 hs62
        obtain ⟨P, hP⟩ : ∃ P, 2 ^ f = P := ⟨_, rfl⟩
        rw [hP] at hpf hle sh han HLF HLP
        have hp0 : 0 < P := by rw [← hP]; exact Nat.two_pow_pos f
        clear hP
        by_cases hne : s = P
        · have han0 : bits .andNot .i64 (s : Int) (P : Int) = 0 := by rw [han, hne]; simp
          have HP := hide (show looseP b s n f = true by rw [HLP.out, decide_eq_true hne]; rfl)
          clear han hne
          go_wp2_with (at_builtin; refine wpList_append_own _ rfl _ _ 29 rfl w3.heap.size 3 i0 (.int .i64 0) 1 8 Try.underlying29 hi hz0 hz1 hz2 rfl (by decide) u5 (F k).length (encI (F k)) rfl (own_ext HO.out ((Ext.refl _).alloc _)) ⟨wr.heap.size, 0, none⟩ 1 1 [.int .i64 (f : Int)] rfl rfl (news_new wr #[.int .i64 (f : Int)] 3) (enc_one _) (by unfold maxLen; omega) (by omega) (by first | (simp; done) | (simp; omega)) ?_; intro v' w4 hown4 hgrow4 hnil)
          have E4 := Ext.grown (HE.out.alloc _) hgrow4 (own_base HO.out (Nat.le_refl _))
          have ho4 : w4.ownsRow w3.heap.size 3 1 v' (F (k + 1)).length (encI (F (k + 1))) := by
            rw [HY.out HP.out, encI_append, List.length_append]
            exact hown4
          have HO4 := hide ho4
          have HE4 := hide E4
          clear ho4 E4 hown4 hgrow4 hnil cj sh han0
          go_roundw
          case rel => exact ⟨k + 1, by omega, by go_num, HO4, HE4⟩
          case measure => simp [intOf]; omega
        · have HC2 := hide (HLF.out hne)
          have HP := hide (show looseP b s n f = joinedB b (s - P) n by rw [HLP.out, decide_eq_false hne]; rfl)
          obtain ⟨x, hx⟩ : ∃ x, s - P = x := ⟨_, rfl⟩
          rw [hx] at han HC2 HP
          have q1 : ((x : Int) == 0) = false := by simp; omega
          have q2 : (x == 0) = false := by simp; omega
          clear hx hne HLF HLP
          obtain ⟨v, hv⟩ : ∃ v, joinedB b x n = v := ⟨_, rfl⟩
          rw [hv] at HC2 HP
          clear hv
          cases v with
          | true =>
            go_wp2_with (first | (go_at_call 25; refine (HC2.out _ HX.out).mono ?_; rintro e w5 ⟨rfl, hb5⟩; have HE5 := hide (HE.out.trans hb5); have HO5 := hide (own_ext HO.out hb5); have hsz5 := HE5.out.size; clear hb5) | (at_builtin; refine wpList_append_own _ rfl _ _ 29 rfl w3.heap.size 3 i0 (.int .i64 0) 1 8 Try.underlying29 hi hz0 hz1 hz2 rfl (by decide) u5 (F k).length (encI (F k)) rfl (own_ext HO5.out ((Ext.refl _).alloc _)) ⟨w5.heap.size, 0, none⟩ 1 1 [.int .i64 (f : Int)] rfl rfl (news_new w5 #[.int .i64 (f : Int)] 3) (enc_one _) (by unfold maxLen; omega) (by omega) (by first | (simp; done) | (simp; omega)) ?_; intro v' w4 hown4 hgrow4 hnil))
            have E4 := Ext.grown (HE5.out.alloc _) hgrow4 (own_base HO5.out (Nat.le_refl _))
            have ho4 : w4.ownsRow w3.heap.size 3 1 v' (F (k + 1)).length (encI (F (k + 1))) := by
              rw [HY.out HP.out, encI_append, List.length_append]
              exact hown4
            have HO4 := hide ho4
            have HE4 := hide E4
            clear ho4 E4 hown4 hgrow4 hnil cj sh han
            go_roundw
            case rel => exact ⟨k + 1, by omega, by go_num, HO4, HE4⟩
            case measure => simp [intOf]; omega
          | false =>
            have HNN := hide (HN.out HP.out)
            go_wp2_with (go_at_call 25; refine (HC2.out _ HX.out).mono ?_; rintro e w5 ⟨rfl, hb5⟩; have HE5 := hide (HE.out.trans hb5); have HO5 := hide (own_ext HO.out hb5); clear hb5)
            clear cj sh han
            go_roundw
            case rel => exact ⟨k + 1, by omega, by go_num, hide (by rw [HNN.out]; exact HO5.out), HE5⟩
            case measure => simp [intOf]; omega
      · obtain rfl : k = m.length := by omega
        obtain ⟨A', c4, e1, _⟩ := own_slice HO.out
        subst e1
        go_wp2_with fail
        go_ret
        have ho := HO.out
        rw [HFE.out] at ho
        exact ⟨A', c4, by rw [HFE.out]; rfl, own_mono ho HW3.out.size, HW3.out.trans HE.out⟩
end Go.Proofs.Ytabgcpoaepafjaa
