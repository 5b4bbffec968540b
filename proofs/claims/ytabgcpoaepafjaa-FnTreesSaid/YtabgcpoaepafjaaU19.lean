/- Words and walks for the law FnTrees, a part of them. No condition but that the arguments lie in memory. -/
import Derived.Test.YtabgcpoaepafjaaU15
import Derived.Test.YtabgcpoaepafjaaU16
import Derived.Test.YtabgcpoaepafjaaU18
set_option linter.unusedVariables false
set_option linter.unusedSimpArgs false
namespace Go.Proofs.Ytabgcpoaepafjaa
noncomputable def spanI (N E : List P2) : Int := if wholeB N E = true then detD (N.length - 1) (tabD (sE E) E.length) else 0
theorem spanI_yes {N E : List P2} (h : wholeB N E = true) : spanI N E = detD (N.length - 1) (tabD (sE E) E.length) := by unfold spanI; rw [if_pos h]
theorem spanI_no {N E : List P2} (h : wholeB N E = false) : spanI N E = 0 := by unfold spanI; rw [h]; rfl
theorem sd_sf {N E : List P2} (h : wholeB N E = true) (d : Nat) : sd N E d = sf N E d := by unfold sd sf fcs; rw [if_pos h]
/-- The leads as pairs of naturals. -/
def ed (E : List P2) : List (Nat × Nat) := E.map fun p => (p.1.toNat, p.2.toNat)
theorem edgesF_length {X Y : Nat → Nat} : ∀ (m s : Nat), (edgesF X Y s m).length = m
  | 0, _ => rfl
  | m + 1, s => by simp only [edgesF, List.length_cons, edgesF_length m]
theorem edgesF_at {X Y : Nat → Nat} : ∀ (m s k : Nat), k < m → (edgesF X Y s m)[k]? = some (X (s + k), Y (s + k))
  | 0, _, _, h => absurd h (by omega)
  | m + 1, s, 0, _ => rfl
  | m + 1, s, k + 1, h => by
    show (edgesF X Y (s + 1) m)[k]? = _
    rw [edgesF_at m (s + 1) k (by omega), show s + 1 + k = s + (k + 1) by omega]
theorem edgesF_ed (E : List P2) : edgesF (fun k => sE E (2 * k)) (fun k => sE E (2 * k + 1)) 0 E.length = ed E := by
  refine List.ext_getElem? fun k => ?_
  rcases Nat.lt_or_ge k E.length with q | q
  · rw [edgesF_at _ _ _ q, Nat.zero_add, sE_even, sE_odd]
    simp [ed, at2, q]
  · rw [List.getElem?_eq_none (by rw [edgesF_length]; exact q), List.getElem?_eq_none (by simp [ed]; exact q)]
theorem span_plan {N E : List P2} (h : wholeB N E = true) : Plan (N.length - 1) ((fcs N E).length - 1) E.length (fun k => sE E (2 * k)) (fun k => sE E (2 * k + 1)) (fun k => sd N E (2 * k)) (fun k => sd N E (2 * k + 1)) := by
  have q := plan_of h
  have e : fcs N E = facesL N E := by unfold fcs; rw [if_pos h]
  rw [e]
  simp only [sd_sf h]
  exact q
theorem whole_m {N E : List P2} (h : wholeB N E = true) : E.length ≤ 20 ∧ 0 < E.length ∧ 2 ≤ N.length ∧ N.length ≤ 12 ∧ E.length + 2 = N.length + (fcs N E).length ∧ 0 < (fcs N E).length := by
  obtain ⟨hW, hm, _⟩ := wholeB_iff.1 h
  have e : fcs N E = facesL N E := by unfold fcs; rw [if_pos h]
  have h1 := hW.m
  have h2 := hW.n
  have h3 := (leadOk_iff.1 (hW.leads 0 hm).1).1
  have h4 := euler_of h
  have h5 := (fcs_facts h).1
  rw [e] at h5 ⊢
  omega
theorem span_trees {N E : List P2} (h : wholeB N E = true) : spanI N E = trees (N.length - 1) id (ed E) := by
  rw [spanI_yes h, ← edgesF_ed]
  exact tab_trees (whole_m h).1 fun k hk => (span_plan h).lx k hk
theorem span_dual {N E : List P2} (h : wholeB N E = true) : spanI N E = dualI N E := by
  rw [span_trees h, dualI_yes h, tab_trees (whole_m h).1 fun k hk => (span_plan h).lp k hk, ← edgesF_ed]
  exact (span_plan h).trees
theorem ed_conn {N E : List P2} (h : wholeB N E = true) : ConnL (N.length - 1) id (ed E) := fun φ _ hk => (span_plan h).cx φ fun k hk' => by
  have q := hk (sE E (2 * k), sE E (2 * k + 1)) (by
    rw [← edgesF_ed]
    have := edgesF_at (X := fun k => sE E (2 * k)) (Y := fun k => sE E (2 * k + 1)) E.length 0 k hk'
    rw [Nat.zero_add] at this
    exact List.mem_of_getElem? this)
  exact q
theorem ed_mem {N E : List P2} (h : WinOk N E) {e : Nat × Nat} (he : e ∈ ed E) : e.1 ≤ N.length - 1 ∧ e.2 ≤ N.length - 1 ∧ e.1 ≠ e.2 := by
  obtain ⟨p, hp, rfl⟩ := List.mem_map.1 he
  obtain ⟨k, hk, rfl⟩ := List.getElem_of_mem hp
  have h3 := (leadOk_iff.1 (h.leads k hk).1).1
  have e : at2 E k = E[k] := by simp [at2, hk]
  rw [e] at h3
  show (E[k]).1.toNat ≤ _ ∧ (E[k]).2.toNat ≤ _ ∧ (E[k]).1.toNat ≠ (E[k]).2.toNat
  omega
theorem span_pos {N E : List P2} (h : wholeB N E = true) : 1 ≤ spanI N E := by
  rw [span_trees h]
  obtain ⟨hW, _, _⟩ := wholeB_iff.1 h
  exact trees_pos _ id (Lb.start _) (fun e he => (ed_mem hW he).1) (ed_conn h)
theorem span_less {N E : List P2} (h : wholeB N E = true) {k : Nat} (hk : k < E.length) : spanI N (E.take k ++ E.drop (k + 1)) < spanI N E := by
  have hp := span_pos h
  cases h2 : wholeB N (E.take k ++ E.drop (k + 1)) with
  | false => rw [spanI_no h2]; omega
  | true =>
    rw [span_trees h2, span_trees h]
    have e1 : ed (E.take k ++ E.drop (k + 1)) = ed (E.take k) ++ ed (E.drop (k + 1)) := by simp [ed]
    have e2 : ed E = ed (E.take k) ++ ((E[k]).1.toNat, (E[k]).2.toNat) :: ed (E.drop (k + 1)) := by
      have e : E = E.take k ++ E[k] :: E.drop (k + 1) := by rw [← List.drop_eq_getElem_cons hk, List.take_append_drop]
      exact (congrArg ed e).trans (by simp only [ed, List.map_append, List.map_cons])
    obtain ⟨hW, _, _⟩ := wholeB_iff.1 h
    have hc := ed_conn h
    rw [e1]
    have hm : ∀ f, f ∈ ed (E.take k) ++ ((E[k]).1.toNat, (E[k]).2.toNat) :: ed (E.drop (k + 1)) → f.1 ≤ N.length - 1 ∧ f.2 ≤ N.length - 1 ∧ f.1 ≠ f.2 := fun f hf => ed_mem hW (by rw [e2]; exact hf)
    rw [e2] at hc ⊢
    exact trees_less (fun f hf => ⟨(hm f hf).1, (hm f hf).2.1⟩) (hm _ (by simp)).2.2 hc
/-! a tree of leads, and the leads left -/
theorem selB_count {c : List Bool} {X Y : Nat → Nat} {n m : Nat} (hc : c.length = m) (hb : ∀ k, k < m → X k ≤ n ∧ Y k ≤ n) (ha : acyc X Y id (selB 0 c)) (hn : Conn n X Y id (selB 0 c)) : (selB 0 c).length = n := by
  have hb' : ∀ k, k ∈ selB 0 c → X k ≤ n ∧ Y k ≤ n := fun k hk => hb k (by have := (selB_mem hk).2; omega)
  have h1 := (conn_cnt (Lb.start n) hb' hn).1
  have h2 := (acyc_cnt (Lb.start n) hb' ha).1
  rw [cnt_id] at h1 h2
  omega
/-- What the law on trees asks of the leads chosen first and of those left. -/
structure TreeOf (N E : List P2) (c : List Bool) : Prop where
  len : c.length = E.length
  ac : acyc (fun k => sE E (2 * k)) (fun k => sE E (2 * k + 1)) id (selB 0 c)
  cn : Conn (N.length - 1) (fun k => sE E (2 * k)) (fun k => sE E (2 * k + 1)) id (selB 0 c)
theorem treeOf {N E : List P2} (h : wholeB N E = true) {p : Nat → Nat} {c : List Bool} (hg : Grd (fun k => sE E (2 * k)) (fun k => sE E (2 * k + 1)) E.length p c) : TreeOf N E c :=
  ⟨hg.len, hg.ac, hg.conn (span_plan h).cx⟩
theorem TreeOf.size {N E : List P2} {c : List Bool} (h : TreeOf N E c) (hw : wholeB N E = true) : (selB 0 c).length = N.length - 1 :=
  selB_count h.len (fun k hk => (span_plan hw).lx k hk) h.ac h.cn
theorem TreeOf.rest {N E : List P2} {c : List Bool} (h : TreeOf N E c) (hw : wholeB N E = true) : (selB 0 (c.map (!·))).length = (fcs N E).length - 1 := by
  have h1 := selB_len c 0
  have h2 := h.size hw
  have h3 := whole_m hw
  have h4 := h.len
  omega
theorem TreeOf.dual {N E : List P2} {c : List Bool} (h : TreeOf N E c) (hw : wholeB N E = true) :
    acyc (fun k => sd N E (2 * k)) (fun k => sd N E (2 * k + 1)) id (selB 0 (c.map (!·))) ∧ Conn ((fcs N E).length - 1) (fun k => sd N E (2 * k)) (fun k => sd N E (2 * k + 1)) id (selB 0 (c.map (!·))) :=
  ((span_plan hw).tree h.len).1 ⟨h.ac, h.cn⟩
/-- The pairs of a list of numbers. -/
def prs (X Y : Nat → Nat) (K : List Nat) : List P2 := K.map fun k => ((X k : Int), (Y k : Int))
theorem prs_at {X Y : Nat → Nat} {K : List Nat} {j : Nat} (hj : j < K.length) : (at2 (prs X Y K) j).1.toNat = X K[j] ∧ (at2 (prs X Y K) j).2.toNat = Y K[j] := by
  have e : at2 (prs X Y K) j = ((X K[j] : Int), (Y K[j] : Int)) := by simp [at2, prs, hj]
  rw [e]
  exact ⟨rfl, rfl⟩
theorem prs_joined {X Y : Nat → Nat} {K : List Nat} {n : Nat} (hl : K.length = n) (hb : ∀ k, k ∈ K → X k ≤ n ∧ Y k ≤ n) (hc : Conn n X Y id K) : joinedV (prs X Y K) = 2 ^ (n + 1) - 1 := by
  have hl' : (prs X Y K).length = n := by simp [prs, hl]
  refine joinedV_all hl' (fun j hj => ?_) fun φ hφ => hc φ (fun _ => rfl) fun k hk => ?_
  · have hj' : j < K.length := by omega
    rw [(prs_at hj').1, (prs_at hj').2]
    exact hb _ (List.getElem_mem hj')
  · obtain ⟨j, hj, rfl⟩ := List.getElem_of_mem hk
    have := hφ j (by omega)
    rw [(prs_at hj).1, (prs_at hj).2] at this
    exact this
theorem TreeOf.joined {N E : List P2} {c : List Bool} (h : TreeOf N E c) (hw : wholeB N E = true) : joinedV (prs (fun k => sE E (2 * k)) (fun k => sE E (2 * k + 1)) (selB 0 c)) = 2 ^ N.length - 1 := by
  have h3 := whole_m hw
  rw [prs_joined (h.size hw) (fun k hk => (span_plan hw).lx k (by have := (selB_mem hk).2; have := h.len; omega)) h.cn, show N.length - 1 + 1 = N.length by omega]
theorem TreeOf.joinedD {N E : List P2} {c : List Bool} (h : TreeOf N E c) (hw : wholeB N E = true) : joinedV (prs (fun k => sd N E (2 * k)) (fun k => sd N E (2 * k + 1)) (selB 0 (c.map (!·)))) = 2 ^ (fcs N E).length - 1 := by
  have h3 := whole_m hw
  rw [prs_joined (h.rest hw) (fun k hk => (span_plan hw).lp k (by have h1 := (selB_mem hk).2; have h2 := h.len; rw [List.length_map] at h1; omega)) (h.dual hw).2, show (fcs N E).length - 1 + 1 = (fcs N E).length by omega]
theorem TreeOf.left {N E : List P2} {c : List Bool} (h : TreeOf N E c) : (List.range E.length).filter (fun k => decide (k ∉ selB 0 c)) = selB 0 (c.map (!·)) := by
  rw [selB_not, h.len, List.range_eq_range']
theorem TreeOf.loose {N E : List P2} {c : List Bool} (h : TreeOf N E c) (hw : wholeB N E = true) {k : Nat} (hk : k < E.length) (he : sd N E (2 * k) = sd N E (2 * k + 1)) : k ∈ selB 0 c := by
  rcases selB_or c 0 k (Nat.zero_le _) (by have := h.len; omega) with q | q
  · exact q
  · exact absurd he (acyc_ne (h.dual hw).1 k q)
theorem sample_span : spanI (shN 0) (shE 0) = 45 := by
  rw [spanI_yes (sh_whole (by decide))]
  decide +kernel
end Go.Proofs.Ytabgcpoaepafjaa
namespace Go.Proofs.Ytabgcpoaepafjaa
open Go.RowKit
theorem castL_at {l : List Nat} {k : Nat} (hk : k < l.length) : (castL l)[k]'(by simpa [castL] using hk) = ((l[k] : Nat) : Int) := by simp [castL]
set_option maxRecDepth 20000 in
set_option maxHeartbeats 4000000 in
/-- A list that rises strictly below m. -/
theorem rising_any (K : List Nat) (m : Nat) (A : Option Addr) (c : Nat) (w : World) (hl : K.length ≤ 40) (hm : m ≤ 40) (hK : K.Pairwise (· < ·)) (hb : ∀ k ∈ K, k < m) (hr : RI w A (castL K)) :
    Calls Try.prog 45 #[.slice A K.length c, .int .i64 0, .int .i64 ((m : Int) - 1)] w fun e w' => e = .returned (.bool true) ∧ w = w' := by
  have HR := hide hr
  have HK := hide hK
  have HB := hide hb
  clear hr hK hb
  go_enter Try.func45, Try.ntmps45
  go_wp2_with fail
  go_loopw [11] (fun i wr => ∃ k : Nat, k ≤ K.length ∧ i = .int .i64 k ∧ Hid (wr = w)) (fun i _ => K.length - (intOf i).toNat)
  case atStart => exact ⟨0, Nat.zero_le _, rfl, hide rfl⟩
  case round =>
    obtain ⟨k, hk, rfl, HW⟩ := hrel
    obtain rfl := HW.out
    by_cases hlt : k < K.length
    · have hlz : (k : Int) < (K.length : Int) := by omega
      obtain ⟨b, off, rfl, hb, hc⟩ := RI.at_ HR.out (k := k) (by rw [castL_length]; exact hlt)
      rw [castL_at hlt] at hc
      have hx := HB.out _ (List.getElem_mem hlt)
      rcases Nat.eq_zero_or_pos k with h0 | h0
      · subst h0
        obtain ⟨x, hx'⟩ : ∃ x, K[0] = x := ⟨_, rfl⟩
        rw [hx'] at hx hc
        rw [Nat.add_zero] at hc
        clear hx'
        have hin : inR (x : Int) 0 ((m : Int) - 1) = true := by simp [inR]; omega
        go_wp2_with (first | (go_at_call 61; refine (within_any _ _ _ _).mono ?_; rintro e w' ⟨rfl, rfl⟩))
        go_roundw
        case rel => exact ⟨1, by omega, by go_num, by first | exact hide rfl | exact hide trivial⟩
        case measure => simp [intOf]; omega
      · obtain ⟨j, rfl⟩ : ∃ j, k = j + 1 := ⟨k - 1, by omega⟩
        obtain ⟨b2, off2, e2, _, hc2⟩ := RI.at_ HR.out (k := j) (by rw [castL_length]; omega)
        cases e2
        rw [castL_at (by omega)] at hc2
        have hlt2 : K[j]'(by omega) < K[j + 1] := List.pairwise_iff_getElem.1 HK.out j (j + 1) (by omega) hlt (by omega)
        obtain ⟨x, hx'⟩ : ∃ x, K[j + 1] = x := ⟨_, rfl⟩
        obtain ⟨y, hy'⟩ : ∃ y, K[j]'(by omega) = y := ⟨_, rfl⟩
        rw [hx'] at hx hc hlt2
        rw [hy'] at hc2 hlt2
        clear hx' hy'
        have hin : inR (x : Int) 0 ((m : Int) - 1) = true := by simp [inR]; omega
        have hjz : (j : Int) < (K.length : Int) := by omega
        have hj1 : IntKind.i64.wrap (((j + 1 : Nat) : Int) - 1) = (j : Int) := by rw [IntKind.wrap_i64]; omega
        have hj0 : decide ((0 : Int) < ((j + 1 : Nat) : Int)) = true := decide_eq_true (by omega)
        have hge : decide ((x : Int) ≤ (y : Int)) = false := decide_eq_false (by omega)
        go_wp2_with (first | (go_at_call 61; refine (within_any _ _ _ _).mono ?_; rintro e w' ⟨rfl, rfl⟩))
        go_roundw
        case rel => exact ⟨j + 2, by omega, by go_num, by first | exact hide rfl | exact hide trivial⟩
        case measure => simp [intOf]; omega
    · obtain rfl : k = K.length := by omega
      go_wp2_with fail
      go_ret
      exact ⟨rfl, rfl⟩
set_option maxRecDepth 20000 in
set_option maxHeartbeats 4000000 in
theorem joined_any (Ps : List P2) (n : Nat) (A : Option Addr) (c : Nat) (w : World) (hl : Ps.length ≤ 40) (hn : n ≤ 40) (hb : ∀ j, j < Ps.length → ∃ f t : Nat, at2 Ps j = ((f : Int), (t : Int)) ∧ f ≤ n ∧ t ≤ n) (hr : R2 w A Ps) :
    Calls Try.prog 46 #[.slice A Ps.length c] w fun e w' => e = .returned (.int .i64 (joinedV Ps : Nat)) ∧ Ext w w' := by
  have HR := hide hr
  have HB := hide hb
  have hb2 : ∀ j, j < Ps.length → (at2 Ps j).1.toNat < n + 1 ∧ (at2 Ps j).2.toNat < n + 1 := fun j hj => by
    obtain ⟨f, t, e, h1, h2⟩ := hb j hj
    rw [e]
    show (f : Int).toNat < _ ∧ (t : Int).toNat < _
    omega
  have hsp := spread_closing hb2
  have hs := fun i => hsp.it_lt (show 1 < 2 ^ (n + 1) from Nat.one_lt_two_pow (by omega)) i
  have hsp2 := fun s (h : s < 2 ^ (n + 1)) k (hk : k ≤ Ps.length) => spread_lt h k fun j hj => hb2 j (by omega)
  have HS := hide hs
  have HSP := hide hsp2
  have hp41 : 2 ^ (n + 1) ≤ 2 ^ 41 := Nat.pow_le_pow_right (show 0 < 2 by decide) (by omega)
  clear hr hb hb2 hsp hs hsp2
  
  go_enter Try.func46, Try.ntmps46
  go_wp2_with fail
  go_loopw [3, 8] (fun v i wr => ∃ k : Nat, k ≤ Ps.length ∧ i = .int .i64 k ∧ v = .int .i64 (it (spreadTo Ps Ps.length) k 1 : Nat) ∧ Hid (Ext w wr)) (fun _ i _ => Ps.length - (intOf i).toNat)
  case atStart => exact ⟨0, Nat.zero_le _, rfl, rfl, hide (Ext.refl _)⟩
  case round =>
    obtain ⟨k, hk, rfl, rfl, HE⟩ := hrel
    by_cases hlt : k < Ps.length
    · have hlz : (k : Int) < (Ps.length : Int) := by omega
      have hsk := HS.out k
      have HI := hide (show it (spreadTo Ps Ps.length) (k + 1) 1 = spreadTo Ps Ps.length (it (spreadTo Ps Ps.length) k 1) from rfl)
      obtain ⟨s, hs⟩ : ∃ s, it (spreadTo Ps Ps.length) k 1 = s := ⟨_, rfl⟩
      rw [hs] at hsk HI ⊢
      clear hs
      have HSK := hide hsk
      clear hsk
      obtain ⟨wo, rfl⟩ : ∃ wo : World, wo = wr := ⟨_, rfl⟩
      go_wp2_with fail
      go_loopw [3, 12] (fun v i wi => ∃ j : Nat, j ≤ Ps.length ∧ i = .int .i64 j ∧ v = .int .i64 (spreadTo Ps j s : Nat) ∧ Hid (Ext wo wi)) (fun _ i _ => Ps.length - (intOf i).toNat)
      case atStart => exact ⟨0, Nat.zero_le _, rfl, rfl, hide (Ext.refl _)⟩
      case round =>
        obtain ⟨j, hj, rfl, rfl, HE2⟩ := hrel
        by_cases hlt2 : j < Ps.length
        · obtain ⟨b, off, rfl, hb, e0, e1⟩ := R2.at_ (HR.out.ext (HE.out.trans HE2.out)) hlt2
          obtain ⟨f, t, hft, hf, ht⟩ := HB.out j hlt2
          rw [at2_eq hlt2] at hft
          have HFT := hide (show at2 Ps j = ((f : Int), (t : Int)) by rw [at2_eq hlt2, hft])
          rw [hft] at e0 e1
          dsimp only at e0 e1
          clear hft
          have y2 : (j : Int) < (Ps.length : Int) := by omega
          have hu := HSP.out s HSK.out j hj
          have HN := hide (show spreadTo Ps (j + 1) s = if (spreadTo Ps j s).testBit f = true ∨ (spreadTo Ps j s).testBit t = true then spreadTo Ps j s ||| (2 ^ f ||| 2 ^ t) else spreadTo Ps j s by simp [spreadTo, HFT.out])
          obtain ⟨u, hu'⟩ : ∃ u, spreadTo Ps j s = u := ⟨_, rfl⟩
          rw [hu'] at HN hu ⊢
          clear hu'
          have hu62 : u < 2 ^ 60 := Nat.lt_of_lt_of_le hu (Nat.le_trans hp41 (by decide))
          have hf60 : f < 60 := by omega
          have ht60 : t < 60 := by omega
          have b1 := bit_at u f (Nat.lt_of_lt_of_le hu62 (by decide))
          have b2 := bit_at u t (Nat.lt_of_lt_of_le hu62 (by decide))
          have HU := hide hu62
          clear hu hu62 hp41
          have kE := HE.out.trans HE2.out
          cases hbf : u.testBit f with
          | true =>
            rw [hbf, if_pos rfl] at b1
            have HBF := hide hbf
            clear hbf b2
            
            go_wp2_with fail
            have HX2 := hide ((Ext.refl wr).alloc (Obj.cells #[Value.int IntKind.i64 (f : Int), Value.int IntKind.i64 (t : Int)] 61))
            obtain ⟨w2, hw⟩ : ∃ w1, w1 = wr.alloc (Obj.cells #[Value.int IntKind.i64 (f : Int), Value.int IntKind.i64 (t : Int)] 61) := ⟨_, rfl⟩; rw [← hw]; have kT : Tr [(wr.heap.size, [.int .i64 (f : Int), .int .i64 (t : Int)])] w w2 := (by rw [hw]; exact ⟨by (first | (simp [Bx, CellsAt, go_sem, *]; done) | (simp [Bx, CellsAt, go_sem, *]; omega)), by (repeat (first | exact kE | exact Ext.refl _ | apply Ext.alloc | apply Ext.drewN | apply Ext.drew | apply Ext.set0 | apply Ext.set1 | apply Ext.set2 | apply Ext.set3 | (refine Ext.setk ?_ (by omega) _) | (apply Ext.snoc; assumption)))⟩); have HT := hide kT; clear kT; have kT := HT.out; simp only [Tr, Bx, CellsAt, Nat.reduceAdd, Nat.zero_add, and_true] at kT; obtain ⟨⟨kz0, kf0, kc0_0, kc0_1⟩, kE⟩ := kT
            rw [← hw] at HX2
            clear hw
            have kq0_0 := ExtBy.cell (W := w2) kz0 kc0_0; have kq0_1 := ExtBy.cell (W := w2) kz0 kc0_1; refine wp_region_quietE (by kernel_rfl) (by kernel_rfl) ?_; (repeat (refine WQ.step (fun K hK => ?_); have HK := hide hK; clear hK; go_simp; refine HK.out _ ?_; clear HK K)); refine WQ.done ?_; intro w3 hw'; obtain ⟨⟨_, hw3⟩, hw''⟩ := hw'; subst hw''; clear kq0_0 kq0_1; have HT := hide (HT.out.ext hw3); have Hw3 := hide hw3; clear hw3 kz0 kf0 kc0_0 kc0_1 kE; have kT := HT.out; simp only [Tr, Bx, CellsAt, Nat.reduceAdd, Nat.zero_add, and_true] at kT; obtain ⟨⟨kz0, kf0, kc0_0, kc0_1⟩, kE⟩ := kT
            go_wp2_with fail
            have HV := hide (show bits .or .i64 (u : Int) (bits .or .i64 (IntKind.i64.wrap ((2 : Int) ^ f)) (IntKind.i64.wrap ((2 : Int) ^ t))) = (spreadTo Ps (j + 1) s : Nat) by rw [HN.out, if_pos (.inl HBF.out)]; exact or_two HU.out hf60 ht60)
            have hE5 := hide (show Ext wo w3 from HE2.out.trans (HX2.out.trans Hw3.out))
            go_roundw
            case rel => exact ⟨j + 1, by omega, by go_num, by rw [HV.out], hE5⟩
            case measure => simp [intOf]; omega
          | false =>
            have b1' : bits .and .i64 ((u : Int) / 2 ^ f) 1 = 0 := by rw [b1, hbf]; rfl
            clear b1
            have HBF := hide hbf
            clear hbf
            cases hbt : u.testBit t with
            | true =>
              rw [hbt, if_pos rfl] at b2
              have HBT := hide hbt
              clear hbt
              
              go_wp2_with fail
              have HX2 := hide ((Ext.refl wr).alloc (Obj.cells #[Value.int IntKind.i64 (f : Int), Value.int IntKind.i64 (t : Int)] 61))
              obtain ⟨w2, hw⟩ : ∃ w1, w1 = wr.alloc (Obj.cells #[Value.int IntKind.i64 (f : Int), Value.int IntKind.i64 (t : Int)] 61) := ⟨_, rfl⟩; rw [← hw]; have kT : Tr [(wr.heap.size, [.int .i64 (f : Int), .int .i64 (t : Int)])] w w2 := (by rw [hw]; exact ⟨by (first | (simp [Bx, CellsAt, go_sem, *]; done) | (simp [Bx, CellsAt, go_sem, *]; omega)), by (repeat (first | exact kE | exact Ext.refl _ | apply Ext.alloc | apply Ext.drewN | apply Ext.drew | apply Ext.set0 | apply Ext.set1 | apply Ext.set2 | apply Ext.set3 | (refine Ext.setk ?_ (by omega) _) | (apply Ext.snoc; assumption)))⟩); have HT := hide kT; clear kT; have kT := HT.out; simp only [Tr, Bx, CellsAt, Nat.reduceAdd, Nat.zero_add, and_true] at kT; obtain ⟨⟨kz0, kf0, kc0_0, kc0_1⟩, kE⟩ := kT
              rw [← hw] at HX2
              clear hw
              have kq0_0 := ExtBy.cell (W := w2) kz0 kc0_0; have kq0_1 := ExtBy.cell (W := w2) kz0 kc0_1; refine wp_region_quietE (by kernel_rfl) (by kernel_rfl) ?_; (repeat (refine WQ.step (fun K hK => ?_); have HK := hide hK; clear hK; go_simp; refine HK.out _ ?_; clear HK K)); refine WQ.done ?_; intro w3 hw'; obtain ⟨⟨_, hw3⟩, hw''⟩ := hw'; subst hw''; clear kq0_0 kq0_1; have HT := hide (HT.out.ext hw3); have Hw3 := hide hw3; clear hw3 kz0 kf0 kc0_0 kc0_1 kE; have kT := HT.out; simp only [Tr, Bx, CellsAt, Nat.reduceAdd, Nat.zero_add, and_true] at kT; obtain ⟨⟨kz0, kf0, kc0_0, kc0_1⟩, kE⟩ := kT
              go_wp2_with fail
              have HV := hide (show bits .or .i64 (u : Int) (bits .or .i64 (IntKind.i64.wrap ((2 : Int) ^ f)) (IntKind.i64.wrap ((2 : Int) ^ t))) = (spreadTo Ps (j + 1) s : Nat) by rw [HN.out, if_pos (.inr HBT.out)]; exact or_two HU.out hf60 ht60)
              have hE5 := hide (show Ext wo w3 from HE2.out.trans (HX2.out.trans Hw3.out))
              go_roundw
              case rel => exact ⟨j + 1, by omega, by go_num, by rw [HV.out], hE5⟩
              case measure => simp [intOf]; omega
            | false =>
              have b2' : bits .and .i64 ((u : Int) / 2 ^ t) 1 = 0 := by rw [b2, hbt]; rfl
              clear b2
              have HBT := hide hbt
              clear hbt
              
              go_wp2_with fail
              have HX2 := hide ((Ext.refl wr).alloc (Obj.cells #[Value.int IntKind.i64 (f : Int), Value.int IntKind.i64 (t : Int)] 61))
              obtain ⟨w2, hw⟩ : ∃ w1, w1 = wr.alloc (Obj.cells #[Value.int IntKind.i64 (f : Int), Value.int IntKind.i64 (t : Int)] 61) := ⟨_, rfl⟩; rw [← hw]; have kT : Tr [(wr.heap.size, [.int .i64 (f : Int), .int .i64 (t : Int)])] w w2 := (by rw [hw]; exact ⟨by (first | (simp [Bx, CellsAt, go_sem, *]; done) | (simp [Bx, CellsAt, go_sem, *]; omega)), by (repeat (first | exact kE | exact Ext.refl _ | apply Ext.alloc | apply Ext.drewN | apply Ext.drew | apply Ext.set0 | apply Ext.set1 | apply Ext.set2 | apply Ext.set3 | (refine Ext.setk ?_ (by omega) _) | (apply Ext.snoc; assumption)))⟩); have HT := hide kT; clear kT; have kT := HT.out; simp only [Tr, Bx, CellsAt, Nat.reduceAdd, Nat.zero_add, and_true] at kT; obtain ⟨⟨kz0, kf0, kc0_0, kc0_1⟩, kE⟩ := kT
              rw [← hw] at HX2
              clear hw
              have HV := hide (show (spreadTo Ps (j + 1) s : Nat) = u by rw [HN.out, if_neg (by rw [HBF.out, HBT.out]; simp)])
              have hE5 := hide (show Ext wo w2 from HE2.out.trans HX2.out)
              go_roundw
              case rel => exact ⟨j + 1, by omega, by go_num, by rw [HV.out], hE5⟩
              case measure => simp [intOf]; omega
        · obtain rfl : j = Ps.length := by omega
          go_wp2_with fail
          have hE5 := hide (HE.out.trans HE2.out)
          go_roundw
          case rel => exact ⟨k + 1, by omega, by go_num, by rw [HI.out], hE5⟩
          case measure => simp [intOf]; omega
    · obtain rfl : k = Ps.length := by omega
      go_wp2_with fail
      go_ret
      exact ⟨rfl, HE.out⟩
end Go.Proofs.Ytabgcpoaepafjaa
namespace Go.Proofs.Ytabgcpoaepafjaa
open Go.RowKit
/-- Lead t ends at a. -/
def ldB (s : Nat → Nat) (a t : Nat) : Bool := decide (s (2 * t) = a) || decide (s (2 * t + 1) = a)
theorem ld_count (s : Nat → Nat) (i : Nat) : ∀ k, (∀ t, t < k → s (2 * t) ≠ s (2 * t + 1)) → ((List.range k).filter (ldB s (i + 1))).length = dgD s (i + 1) (2 * k)
  | 0, _ => rfl
  | k + 1, h => by
    have h1 := ld_count s i k fun t ht => h t (by omega)
    have h2 : tabD s (k + 1) i i = tabD s k i i + (dg1 s (i + 1) k : Int) := by
      show tabD s k i i + (if i = i then _ else _) = _
      rw [if_pos rfl]
    rw [tab_diag, tab_diag] at h2
    have h3 : dg1 s (i + 1) k = if ldB s (i + 1) k = true then 1 else 0 := by
      unfold dg1 ldB
      rw [if_neg (h k (by omega))]
      simp only [Bool.or_eq_true, decide_eq_true_eq]
    rw [List.range_succ, List.filter_append, List.length_append, h1]
    rw [h3] at h2
    cases hb : ldB s (i + 1) k with
    | true =>
      rw [hb, if_pos rfl] at h2
      simp [hb]
      omega
    | false =>
      rw [hb, if_neg (by simp)] at h2
      simp [hb]
      omega
def tabS (s : Nat → Nat) (m k : Nat) : Nat → Nat → Int := fun i j => if i = j then (dgD s (i + 1) (2 * m) : Int) else -((shL s (i + 1) (j + 1) k).length : Int)
theorem tabS_end (s : Nat → Nat) (m : Nat) : tabS s m m = tabD s m := by
  funext i j
  unfold tabS
  by_cases e : i = j
  · subst e
    rw [if_pos rfl, tab_diag]
  · rw [if_neg e, tab_off s e]
theorem tabS_same {s : Nat → Nat} {m k : Nat} (h : s (2 * k) = 0) : tabS s m (k + 1) = tabS s m k := by
  funext i j
  unfold tabS
  by_cases e : i = j
  · rw [if_pos e, if_pos e]
  · rw [if_neg e, if_neg e, shL_next]
    have e2 : sh1 s (i + 1) (j + 1) k = 0 := by
      unfold sh1 ssB
      rw [h]
      simp
    rw [e2]
    rfl
theorem tabS_put {s : Nat → Nat} {m k x y : Nat} (hx : s (2 * k) = x + 1) (hy : s (2 * k + 1) = y + 1) (hne : x ≠ y) :
    upd (upd (tabS s m k) x y (tabS s m k x y + -1)) y x (tabS s m k y x + -1) = tabS s m (k + 1) := by
  funext i j
  have hs : ∀ i j, sh1 s (i + 1) (j + 1) k = if (i = x ∧ j = y) ∨ (i = y ∧ j = x) then 1 else 0 := fun i j => by
    unfold sh1 ssB
    rw [hx, hy]
    simp only [Bool.or_eq_true, Bool.and_eq_true, decide_eq_true_eq]
    by_cases e : (i = x ∧ j = y) ∨ (i = y ∧ j = x)
    · rw [if_pos e, if_pos (by omega)]
    · rw [if_neg e, if_neg (by omega)]
  have hn : ∀ i j, i ≠ j → tabS s m (k + 1) i j = tabS s m k i j + (if (i = x ∧ j = y) ∨ (i = y ∧ j = x) then -1 else 0) := fun i j e => by
    unfold tabS
    rw [if_neg e, if_neg e, shL_next, hs]
    split <;> omega
  by_cases e1 : i = y ∧ j = x
  · obtain ⟨rfl, rfl⟩ := e1
    rw [upd_same, hn _ _ (fun e => hne e.symm), if_pos (.inr ⟨rfl, rfl⟩)]
  · rw [upd_ne _ _ _ _ (by omega)]
    by_cases e2 : i = x ∧ j = y
    · obtain ⟨rfl, rfl⟩ := e2
      rw [upd_same, hn _ _ hne, if_pos (.inl ⟨rfl, rfl⟩)]
    · rw [upd_ne _ _ _ _ (by omega)]
      by_cases e3 : i = j
      · subst e3
        unfold tabS
        rw [if_pos rfl, if_pos rfl]
      · rw [hn _ _ e3, if_neg (by omega)]
        omega
theorem tabS_small (s : Nat → Nat) (m k i j : Nat) (hm : m ≤ 20) (hk : k ≤ 20) : -40 ≤ tabS s m k i j ∧ tabS s m k i j ≤ 40 := by
  unfold tabS
  split
  · have := dgD_le s (i + 1) (2 * m)
    omega
  · have := shL_le s (i + 1) (j + 1) k
    omega
theorem sE_lead {N E : List P2} (h : WinOk N E) {k : Nat} (hk : k < E.length) : at2 E k = ((sE E (2 * k) : Int), (sE E (2 * k + 1) : Int)) ∧ sE E (2 * k) < sE E (2 * k + 1) ∧ sE E (2 * k + 1) < N.length := by
  have h1 := (leadOk_iff.1 (h.leads k hk).1).1
  rw [sE_even, sE_odd]
  refine ⟨Prod.ext ?_ ?_, ?_, ?_⟩
  · show (at2 E k).1 = (((at2 E k).1.toNat : Nat) : Int)
    omega
  · show (at2 E k).2 = (((at2 E k).2.toNat : Nat) : Int)
    omega
  · omega
  · omega
set_option maxRecDepth 20000 in
set_option maxHeartbeats 4000000 in
theorem hasNode_any (N E : List P2) (A B : Option Addr) (c c' k : Nat) (w : World) (hw : WR w N E A B c c') (hok : WinOk N E) (hk : k < N.length) :
    Calls Try.prog 80 #[.agg #[.slice A N.length c, .slice B E.length c'], .int .i64 k] w fun e w' => e = .returned (.bool true) ∧ Ext w w' := by
  have HC := hide (fun (W : World) (hE : Ext w W) => by have h := WindowOk_any N E A B c c' W hw.hN hw.hE hw.hc hw.hd (hw.hr.ext hE) (hw.hs.ext hE); rw [windowB_iff.2 hok] at h; exact h)
  have hn := hok.n
  have hin := in_nat2 hk
  clear hw hok
  
  go_enter Try.func80, Try.ntmps80
  go_wp2_with fail
  obtain ⟨w0, hw⟩ : ∃ w1, w1 = w.alloc (Obj.cells #[Value.slice A N.length c, Value.slice B E.length c'] 27) := ⟨_, rfl⟩; rw [← hw]; have kT : Tr [(w.heap.size, [.slice A N.length c, .slice B E.length c'])] w w0 := (by rw [hw]; exact ⟨by (first | (simp [Bx, CellsAt, go_sem, *]; done) | (simp [Bx, CellsAt, go_sem, *]; omega)), by (repeat (first | exact kE | exact Ext.refl _ | apply Ext.alloc | apply Ext.drewN | apply Ext.drew | apply Ext.set0 | apply Ext.set1 | apply Ext.set2 | apply Ext.set3 | (refine Ext.setk ?_ (by omega) _) | (apply Ext.snoc; assumption)))⟩); have HT := hide kT; clear hw kT; have kT := HT.out; simp only [Tr, Bx, CellsAt, Nat.reduceAdd, Nat.zero_add, and_true] at kT; obtain ⟨⟨kz0, kf0, kc0_0, kc0_1⟩, kE⟩ := kT
  refine (HC.out w0 kE).mono ?_; rintro e w1 ⟨rfl, hb⟩; have HT := hide (HT.out.ext hb); have Hw1 := hide hb; clear hb; clear kz0 kf0 kc0_0 kc0_1 kE; have kT := HT.out; simp only [Tr, Bx, CellsAt, Nat.reduceAdd, Nat.zero_add, and_true] at kT; obtain ⟨⟨kz0, kf0, kc0_0, kc0_1⟩, kE⟩ := kT
  have hwn : IntKind.i64.wrap ((N.length : Int) - 1) = (N.length : Int) - 1 := by rw [IntKind.wrap_i64]; omega
  go_wp2_with (first | (go_at_call 61; refine (within_any _ _ _ _).mono ?_; rintro e w' ⟨rfl, rfl⟩))
  go_ret
  exact ⟨rfl, kE⟩
set_option maxRecDepth 20000 in
set_option maxHeartbeats 8000000 in
theorem LeadsAt_any (N E : List P2) (A B : Option Addr) (c c' a : Nat) (w : World) (hw : WR w N E A B c c') (hok : WinOk N E) (ha : a < N.length) :
    Calls Try.prog 81 #[.agg #[.slice A N.length c, .slice B E.length c'], .int .i64 a] w fun e w' => ∃ A2 c2, e = .returned (.slice A2 ((List.range E.length).filter (ldB (sE E) a)).length c2) ∧ Ext w w' := by
  obtain ⟨i0, hi, hz0, hz1, hz2⟩ := info_parts int_info
  have hm := hok.m
  have HA := hide (fun (W : World) (hE : Ext w W) => hasNode_any N E A B c c' a W (hw.ext hE) hok ha)
  have HLE := hide (fun k (hk : k < E.length) => sE_lead hok hk)
  have hHW := hide hw
  obtain ⟨s, hs⟩ : ∃ s, sE E = s := ⟨_, rfl⟩
  rw [hs] at HLE ⊢
  have HFY := hide (fun k h => castL_range_yes (p := ldB s a) (k := k) h)
  have HFN := hide (fun k h => filter_range_no (p := ldB s a) (k := k) h)
  have HSS := hide (fun k => (show ldB s a k = (decide (s (2 * k) = a) || decide (s (2 * k + 1) = a)) from rfl))
  obtain ⟨F, hF⟩ : ∃ F : Nat → List Int, (fun k => castL ((List.range k).filter (ldB s a))) = F := ⟨_, rfl⟩
  have hFk : ∀ k, castL ((List.range k).filter (ldB s a)) = F k := fun k => congrFun hF k
  have HFL := hide (fun k => (show (F k).length ≤ k by rw [← hFk, castL_length]; exact Nat.le_trans (List.length_filter_le _ _) (by simp)))
  have HF0 := hide (show F 0 = [] from by rw [← hFk]; rfl)
  have hFE2 : ((List.range E.length).filter (ldB s a)).length = (F E.length).length := by rw [← hFk, castL_length]
  rw [hFE2]
  have HFY := hide (fun k h => (by have q := HFY.out k h; rw [hFk, hFk] at q; exact q : F (k + 1) = F k ++ [(k : Int)]))
  have HFN := hide (fun k h => (by have q := HFN.out k h; rw [hFk, hFk] at q; exact q : F (k + 1) = F k))
  clear hw hok hs hF hFk hFE2 ha
  
  go_enter Try.func81, Try.ntmps81
  go_wp2_with fail
  obtain ⟨w0, hw⟩ : ∃ w1, w1 = w.alloc (Obj.cells #[Value.slice A N.length c, Value.slice B E.length c'] 27) := ⟨_, rfl⟩; rw [← hw]; have kT : Tr [(w.heap.size, [.slice A N.length c, .slice B E.length c'])] w w0 := (by rw [hw]; exact ⟨by (first | (simp [Bx, CellsAt, go_sem, *]; done) | (simp [Bx, CellsAt, go_sem, *]; omega)), by (repeat (first | exact kE | exact Ext.refl _ | apply Ext.alloc | apply Ext.drewN | apply Ext.drew | apply Ext.set0 | apply Ext.set1 | apply Ext.set2 | apply Ext.set3 | (refine Ext.setk ?_ (by omega) _) | (apply Ext.snoc; assumption)))⟩); have HT := hide kT; clear hw kT; have kT := HT.out; simp only [Tr, Bx, CellsAt, Nat.reduceAdd, Nat.zero_add, and_true] at kT; obtain ⟨⟨kz0, kf0, kc0_0, kc0_1⟩, kE⟩ := kT
  refine (HA.out w0 kE).mono ?_; rintro e w3 ⟨rfl, hb⟩; have HT := hide (HT.out.ext hb); have Hw3 := hide hb; clear hb; clear kz0 kf0 kc0_0 kc0_1 kE; have kT := HT.out; simp only [Tr, Bx, CellsAt, Nat.reduceAdd, Nat.zero_add, and_true] at kT; obtain ⟨⟨kz0, kf0, kc0_0, kc0_1⟩, kE⟩ := kT
  have HW3 := hide kE
  have HTZ := HT
  go_wp2_with fail
  clear kz0 kf0 kc0_0 kc0_1 kE
  clear HT
  go_loopw [5, 15] (fun v i wr => ∃ k : Nat, k ≤ E.length ∧ i = .int .i64 k ∧ Hid (wr.ownsRow w3.heap.size 3 1 v (F k).length (encI (F k))) ∧ Hid (Ext w3 wr)) (fun _ i _ => E.length - (intOf i).toNat)
  case atStart => exact ⟨0, Nat.zero_le _, rfl, hide (by rw [HF0.out]; exact World.ownsRow_nil _ _ _ _), hide (Ext.refl _)⟩
  case round =>
    obtain ⟨k, hk, rfl, HO, HE⟩ := hrel
    by_cases hlt : k < E.length
    · have hlz : (k : Int) < (E.length : Int) := by omega
      have hsz := HE.out.size
      have hFl := HFL.out k
      have HSK := hide (HSS.out k)
      have HY := hide (HFY.out k)
      have HN := hide (HFN.out k)
      obtain ⟨b, off, rfl, hb, e0, e1⟩ := R2.at_ (hHW.out.hs.ext (HW3.out.trans HE.out)) hlt
      have hle := (HLE.out k hlt).1
      rw [at2_eq hlt] at hle
      rw [hle] at e0 e1
      dsimp only at e0 e1
      obtain ⟨x, hx⟩ : ∃ x, s (2 * k) = x := ⟨_, rfl⟩
      obtain ⟨y, hy⟩ : ∃ y, s (2 * k + 1) = y := ⟨_, rfl⟩
      rw [hx, hy] at HSK
      rw [hx] at e0
      rw [hy] at e1
      clear hle hx hy
      have kE := HE.out
      
      by_cases hxa : x = a
      · have HP := hide (show ldB s a k = true from by rw [HSK.out, decide_eq_true hxa]; rfl)
        have t1 : ((x : Int) == (a : Int)) = true := by simp [hxa]
        have t2 : (x == a) = true := by simp [hxa]
        clear hxa
        go_wp2_with (at_builtin; refine wpList_append_own _ rfl _ _ 29 rfl w3.heap.size 3 i0 (.int .i64 0) 1 8 Try.underlying29 hi hz0 hz1 hz2 rfl (by decide) u5 (F k).length (encI (F k)) rfl (own_ext HO.out (((Ext.refl _).alloc _).alloc _)) ⟨wr.heap.size + 1, 0, none⟩ 1 1 [.int .i64 (k : Int)] rfl rfl (by have h := news_new (wr.alloc (Obj.cells #[Value.int IntKind.i64 (x : Int), Value.int IntKind.i64 (y : Int)] 56)) #[.int .i64 (k : Int)] 3; simpa using h) (enc_one _) (by unfold maxLen; omega) (by omega) (by simp; omega) ?_; intro v' w5 hown5 hgrow5 hnil)
        have E5 := hide (Ext.grown ((HE.out.alloc _).alloc _) hgrow5 (own_base HO.out (Nat.le_refl _)))
        have HO5 := hide (show w5.ownsRow w3.heap.size 3 1 v' (F (k + 1)).length (encI (F (k + 1))) from by
          rw [HY.out HP.out, encI_append, List.length_append]
          exact hown5)
        clear hown5 hgrow5 hnil
        go_roundw
        case rel => exact ⟨k + 1, by omega, by go_num, HO5, E5⟩
        case measure => simp [intOf]; omega
      · have t1 : ((x : Int) == (a : Int)) = false := by simp; omega
        have t2 : (x == a) = false := by simp [hxa]
        by_cases hya : y = a
        · have HP := hide (show ldB s a k = true from by rw [HSK.out, decide_eq_true hya, Bool.or_true])
          have t3 : ((y : Int) == (a : Int)) = true := by simp [hya]
          have t4 : (y == a) = true := by simp [hya]
          clear hxa hya
          go_wp2_with (at_builtin; refine wpList_append_own _ rfl _ _ 29 rfl w3.heap.size 3 i0 (.int .i64 0) 1 8 Try.underlying29 hi hz0 hz1 hz2 rfl (by decide) u5 (F k).length (encI (F k)) rfl (own_ext HO.out (((Ext.refl _).alloc _).alloc _)) ⟨wr.heap.size + 1, 0, none⟩ 1 1 [.int .i64 (k : Int)] rfl rfl (by have h := news_new (wr.alloc (Obj.cells #[Value.int IntKind.i64 (x : Int), Value.int IntKind.i64 (y : Int)] 56)) #[.int .i64 (k : Int)] 3; simpa using h) (enc_one _) (by unfold maxLen; omega) (by omega) (by simp; omega) ?_; intro v' w5 hown5 hgrow5 hnil)
          have E5 := hide (Ext.grown ((HE.out.alloc _).alloc _) hgrow5 (own_base HO.out (Nat.le_refl _)))
          have HO5 := hide (show w5.ownsRow w3.heap.size 3 1 v' (F (k + 1)).length (encI (F (k + 1))) from by
            rw [HY.out HP.out, encI_append, List.length_append]
            exact hown5)
          clear hown5 hgrow5 hnil
          go_roundw
          case rel => exact ⟨k + 1, by omega, by go_num, HO5, E5⟩
          case measure => simp [intOf]; omega
        · have HP := hide (show ldB s a k = false from by rw [HSK.out, decide_eq_false hxa, decide_eq_false hya]; rfl)
          have t3 : ((y : Int) == (a : Int)) = false := by simp; omega
          have t4 : (y == a) = false := by simp [hya]
          clear hxa hya
          go_wp2_with fail
          go_roundw
          case rel => exact ⟨k + 1, by omega, by go_num, hide (by rw [HN.out HP.out]; exact own_ext HO.out ((Ext.refl _).alloc _)), hide (HE.out.alloc _)⟩
          case measure => simp [intOf]; omega
    · obtain rfl : k = E.length := by omega
      have HX := hide (HW3.out.trans HE.out)
      obtain ⟨Ar, cr, rfl, _⟩ := own_slice HO.out
      go_wp2_with fail
      go_ret
      exact ⟨Ar, cr, rfl, HX.out⟩
theorem DegreeOf_any (N E : List P2) (A B : Option Addr) (c c' a : Nat) (w : World) (hw : WR w N E A B c c') (hok : WinOk N E) (ha : a + 1 < N.length) :
    Calls Try.prog 43 #[.agg #[.slice A N.length c, .slice B E.length c'], .int .i64 ((a : Int) + 1)] w fun e w' => e = .returned (.int .i64 (dgD (sE E) (a + 1) (2 * E.length) : Nat)) ∧ Ext w w' := by
  have HA := hide (fun (W : World) (hE : Ext w W) => hasNode_any N E A B c c' (a + 1) W (hw.ext hE) hok ha)
  have HB := hide (fun (W : World) (hE : Ext w W) => LeadsAt_any N E A B c c' (a + 1) W (hw.ext hE) hok ha)
  have hle := ld_count (sE E) a E.length fun t ht => by
    have := (sE_lead hok ht).2.1
    omega
  rw [hle] at HB
  have HA := hide (fun W hE => (by have h := HA.out W hE; push_cast at h; exact h : Calls Try.prog 80 #[.agg #[.slice A N.length c, .slice B E.length c'], .int .i64 ((a : Int) + 1)] W fun e w' => e = .returned (.bool true) ∧ Ext W w'))
  obtain ⟨D, hD⟩ : ∃ D, dgD (sE E) (a + 1) (2 * E.length) = D := ⟨_, rfl⟩
  rw [hD] at HB ⊢
  have HB := hide (fun W hE => (by have h := HB.out W hE; push_cast at h; exact h : Calls Try.prog 81 #[.agg #[.slice A N.length c, .slice B E.length c'], .int .i64 ((a : Int) + 1)] W fun e w' => ∃ A2 c2, e = .returned (.slice A2 D c2) ∧ Ext W w'))
  clear hw hok ha hle hD
  
  go_enter Try.func43, Try.ntmps43
  go_wp2_with fail
  obtain ⟨w0, hw⟩ : ∃ w1, w1 = w.alloc (Obj.cells #[Value.slice A N.length c, Value.slice B E.length c'] 27) := ⟨_, rfl⟩; rw [← hw]; have kT : Tr [(w.heap.size, [.slice A N.length c, .slice B E.length c'])] w w0 := (by rw [hw]; exact ⟨by (first | (simp [Bx, CellsAt, go_sem, *]; done) | (simp [Bx, CellsAt, go_sem, *]; omega)), by (repeat (first | exact kE | exact Ext.refl _ | apply Ext.alloc | apply Ext.drewN | apply Ext.drew | apply Ext.set0 | apply Ext.set1 | apply Ext.set2 | apply Ext.set3 | (refine Ext.setk ?_ (by omega) _) | (apply Ext.snoc; assumption)))⟩); have HT := hide kT; clear hw kT; have kT := HT.out; simp only [Tr, Bx, CellsAt, Nat.reduceAdd, Nat.zero_add, and_true] at kT; obtain ⟨⟨kz0, kf0, kc0_0, kc0_1⟩, kE⟩ := kT
  refine (HA.out w0 kE).mono ?_; rintro e w3 ⟨rfl, hb⟩; have HT := hide (HT.out.ext hb); have Hw3 := hide hb; clear hb; clear kz0 kf0 kc0_0 kc0_1 kE; have kT := HT.out; simp only [Tr, Bx, CellsAt, Nat.reduceAdd, Nat.zero_add, and_true] at kT; obtain ⟨⟨kz0, kf0, kc0_0, kc0_1⟩, kE⟩ := kT
  go_wp2_with fail
  refine (HB.out _ kE).mono ?_
  rintro e w4 ⟨A2, c2, rfl, hb4⟩
  have HX := hide (kE.trans hb4)
  clear hb4
  go_wp2_with fail
  go_ret
  exact ⟨rfl, HX.out⟩
end Go.Proofs.Ytabgcpoaepafjaa
