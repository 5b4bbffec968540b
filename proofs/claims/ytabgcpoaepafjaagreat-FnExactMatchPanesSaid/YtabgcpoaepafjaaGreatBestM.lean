/- The walk of the reference's greatest number of shapes with places. No condition but that the lists are not too long. -/
import Derived.Test.YtabgcpoaepafjaaGreatKBt
set_option linter.unusedSimpArgs false
set_option linter.unusedVariables false
namespace Go.Proofs.YtabgcpoaepafjaaGreat
open Go.RowKit

/-- The greatest number behind the first k places of a row. -/
def bestF (r : List Nat) (P : List (List Nat)) (used : List Nat) (k : Nat) : Nat := (r.take k).foldl (fun b p => if used.contains p then b else max b (1 + bestM P (used ++ [p]))) (bestM P used)
theorem bestF_all {r : List Nat} {P : List (List Nat)} {used : List Nat} : bestF r P used r.length = bestM (r :: P) used := by unfold bestF; rw [List.take_length]; rfl
theorem bestF_step {r : List Nat} {P : List (List Nat)} {used : List Nat} {k : Nat} (hk : k < r.length) : bestF r P used (k + 1) = if used.contains r[k] then bestF r P used k else max (bestF r P used k) (1 + bestM P (used ++ [r[k]])) := by
  unfold bestF
  rw [List.take_succ_eq_append_getElem hk, List.foldl_append]
  rfl
theorem bestF_le (r : List Nat) (P : List (List Nat)) (used : List Nat) (k : Nat) : bestF r P used k ≤ 1 + P.length := by
  have h := fold_had (g := fun p => 1 + bestM P (used ++ [p])) (q := fun p => used.contains p) (r.take k) (bestM P used)
  unfold bestF
  rcases h with h | ⟨p, _, _, h⟩
  · have := bestM_le P used
    rw [h]
    omega
  · have := bestM_le P (used ++ [p])
    rw [h]
    omega
theorem lit_own2 (w : World) (e : TypeId) (sz : Nat) : (w.alloc (.cells #[] e)).ownsRow w.heap.size e sz (.slice (some ⟨w.heap.size, 0, none⟩) 0 0) 0 [] := World.ownsRow_lit (base := w.heap.size) (e := e) (size := sz) w #[] 0 (Nat.le_refl _) (Nat.zero_le _) (by simp)
set_option maxRecDepth 20000 in
set_option maxHeartbeats 16000000 in
theorem l19Best_any (P : List (List Nat)) (A : Option Addr) (c : Nat) (h8 : P.length ≤ 8) (h40 : ∀ r ∈ P, r.length ≤ 40) (hlt : ∀ r ∈ P, ∀ p ∈ r, p < 40) : ∀ (d from_ : Nat) (used : List Nat) (U : Option Addr) (cu : Nat) (w : World), from_ + d = P.length → used.length + d ≤ 50 → used.length ≤ cu → RNN w A P → Rds w 1 U used.length (encI (castZ used)) →
    Calls Tryz.prog 78 #[.slice A P.length c, .int .i64 (from_ : Int), .slice U used.length cu] w fun e w' => e = .returned (.int .i64 (bestM (P.drop from_) used : Nat)) ∧ Ext w w' := by
  intro d
  induction d with
  | zero =>
    intro from_ used U cu w hfd hu hcu hr hru
    obtain rfl : from_ = P.length := by omega
    have e : P.drop P.length = [] := List.drop_length
    rw [e]
    go_enter Tryz.func78, Tryz.ntmps78
    go_wp2_with fail
    go_ret
    exact ⟨rfl, Ext.refl _⟩
  | succ d ih =>
    intro from_ used U cu w hfd hu hcu hr hru
    have hfl : from_ < P.length := by omega
    have hfz : (from_ : Int) < (P.length : Int) := by omega
    have hne : ((from_ : Int) == (P.length : Int)) = false := by rw [beq_eq_false_iff_ne]; omega
    have HR := hide hr
    have HRU := hide hru
    have HIH := hide (show ∀ (W : World), Ext w W → Calls Tryz.prog 78 #[.slice A P.length c, .int .i64 ((from_ : Int) + 1), .slice U used.length cu] W fun e w' => e = .returned (.int .i64 (bestM (P.drop (from_ + 1)) used : Nat)) ∧ Ext W w' from fun W h => by
      have h3 := ih (from_ + 1) used U cu W (by omega) (by omega) hcu (hr.ext h) (Rds.ext hru h)
      rw [show ((from_ + 1 : Nat) : Int) = (from_ : Int) + 1 from by push_cast; rfl] at h3
      exact h3)
    have HII := hide (show ∀ (p : Nat) (W : World), Ext w W → ∀ (U2 : Option Addr) (c2 : Nat), used.length + 1 ≤ c2 → Rds W 1 U2 (used.length + 1) (encI (castZ (used ++ [p]))) → Calls Tryz.prog 78 #[.slice A P.length c, .int .i64 ((from_ : Int) + 1), .slice U2 (used.length + 1) c2] W fun e w' => e = .returned (.int .i64 (bestM (P.drop (from_ + 1)) (used ++ [p]) : Nat)) ∧ Ext W w' from fun p W h U2 c2 hc2 h2 => by
      have hl : (used ++ [p]).length = used.length + 1 := by simp
      have h3 := ih (from_ + 1) (used ++ [p]) U2 c2 W (by omega) (by rw [hl]; omega) (by rw [hl]; exact hc2) (hr.ext h) (by rw [hl]; exact h2)
      rw [hl, show ((from_ + 1 : Nat) : Int) = (from_ : Int) + 1 from by push_cast; rfl] at h3
      exact h3)
    have hdr : P.drop from_ = P[from_] :: P.drop (from_ + 1) := List.drop_eq_getElem_cons hfl
    rw [hdr]
    have hr40 := h40 _ (List.getElem_mem hfl)
    have HLT := hide (hlt _ (List.getElem_mem hfl))
    have hPl : (P.drop (from_ + 1)).length ≤ 8 := by simp; omega
    have HAT := hide (fun (W : World) (h : Ext w W) => (hr.ext h).at_ hfl)
    obtain ⟨r, hrr⟩ : ∃ r, P[from_] = r := ⟨_, rfl⟩
    rw [hrr] at hr40 HLT HAT ⊢
    obtain ⟨Q, hQ⟩ : ∃ Q, P.drop (from_ + 1) = Q := ⟨_, rfl⟩
    rw [hQ] at HIH HII hPl ⊢
    rw [← bestF_all]
    have HBL := hide (fun k => bestF_le r Q used k)
    have HBS := hide (fun k (hk : k < r.length) => bestF_step (P := Q) (used := used) hk)
    have HB0 := hide (show bestF r Q used 0 = bestM Q used from rfl)
    have HML := hide (fun u => bestM_le Q u)
    obtain ⟨F, hF⟩ : ∃ F : Nat → Nat, ∀ k, bestF r Q used k = F k := ⟨_, fun _ => rfl⟩
    simp only [hF] at HBL HBS HB0 ⊢
    obtain ⟨b0, hb0⟩ : ∃ b0, bestM Q used = b0 := ⟨_, rfl⟩
    rw [hb0] at HB0 HIH
    clear hF hb0
    have hu50 : used.length ≤ 49 := by omega
    obtain ⟨m, hm⟩ : ∃ m, P.length = m := ⟨_, rfl⟩
    rw [hm] at h8 hfz hne hfl HIH HII ⊢
    obtain ⟨n, hn⟩ : ∃ n, used.length = n := ⟨_, rfl⟩
    have HN := hide hn
    have hzn : (castZ used).length = n := by rw [castZ_length]; exact hn
    rw [hn] at hcu hu50 HIH HII HRU ⊢
    clear ih hr hru hdr hrr hQ hm hlt h40 hfd hu hn
    have HZN := hide hzn
    clear hzn
    go_enter Tryz.func78, Tryz.ntmps78
    go_wp2_with fail
    refine (HIH.out _ (Ext.refl _)).mono ?_
    rintro e w1 ⟨rfl, hb1⟩
    have HE1 := hide hb1
    clear hb1
    go_wp2_with fail
    go_loopw [7, 8] (fun b i wr => ∃ k : Nat, k ≤ r.length ∧ i = .int .i64 k ∧ b = .int .i64 (F k : Nat) ∧ Hid (Ext w wr)) (fun _ i _ => r.length - (intOf i).toNat)
    case atStart => exact ⟨0, Nat.zero_le _, rfl, by rw [HB0.out], HE1⟩
    case round =>
      clear HE1
      obtain ⟨k, hk, rfl, rfl, HE⟩ := hrel
      obtain ⟨bP, oP, rfl, hbP, D, dd, cP, hd1, hd2, hrD⟩ := HAT.out wr HE.out
      by_cases hkr : k < r.length
      · have hkz : (k : Int) < (r.length : Int) := by omega
        obtain ⟨bR, oR, rfl, hbR, hcR⟩ := hrD.2 (by omega)
        have cR := hcR k _ (encI_castZ_get hkr)
        have hpl := HLT.out _ (List.getElem_mem hkr)
        have hbs := HBS.out k hkr
        have hbl := HBL.out k
        obtain ⟨p, hp⟩ : ∃ p, r[k] = p := ⟨_, rfl⟩
        rw [hp] at cR hpl hbs
        have hbm := HML.out (used ++ [p])
        obtain ⟨b, hb⟩ : ∃ b, F k = b := ⟨_, rfl⟩
        rw [hb] at hbs hbl ⊢
        have hhas : hasL (castZ used) (p : Int) = used.contains p := by
          rw [Bool.eq_iff_iff, hasL_iff]
          simp [castZ]
          exact ⟨fun ⟨a, h1, h2⟩ => by
            have h3 : a = p := by omega
            exact h3 ▸ h1, fun h => ⟨p, h, rfl⟩⟩
        have HHAS := hide (show ∀ (W : World), Ext wr W → Calls Tryz.prog 79 #[.slice U n cu, .int .i64 (p : Int)] W fun e w' => e = .returned (.bool (used.contains p)) ∧ W = w' from fun W h => by
          have hz := HZN.out
          have h3 := l06Has_any (castZ used) U cu (p : Int) W (by omega) (show Rds W 1 U (castZ used).length (encI (castZ used)) from by rw [hz]; exact Rds.ext HRU.out (HE.out.trans h))
          rw [hz, hhas] at h3
          exact h3)
        have HC2 := hide (HII.out p)
        obtain ⟨B, hB⟩ : ∃ B, bestM Q (used ++ [p]) = B := ⟨_, rfl⟩
        rw [hB] at HC2 hbm hbs
        clear hp hb hcR hhas hB hrD HBL HBS HML
        go_wp2_with fail
        refine (HHAS.out _ (Ext.refl _)).mono ?_
        rintro e w2 ⟨rfl, hb2⟩
        have hb2 : Ext wr w2 := hb2 ▸ Ext.refl _
        have cP := (hb2.facts.1 _ _ hbP).trans cP
        have cR := (hb2.facts.1 _ _ hbR).trans cR
        have hbP := hb2.facts.2.2 _ hbP
        have hbR := hb2.facts.2.2 _ hbR
        have HE2 := hide (HE.out.trans hb2)
        clear hb2 HE HHAS
        cases hcon : used.contains p with
        | true =>
          rw [hcon, if_pos rfl] at hbs
          have HBS2 := hide hbs
          clear hbs
          go_wp2_with fail
          go_roundw
          case rel => exact ⟨k + 1, by omega, by go_num, by rw [HBS2.out], HE2⟩
          case measure => simp [intOf]; omega
        | false =>
          rw [hcon, if_neg (by simp)] at hbs
          have HBS2 := hide hbs
          clear hbs
          obtain ⟨i0, hi, hz0, hz1, hz2⟩ := info_parts int_info
          have HRU2 := hide (Rds.ext HRU.out HE2.out)
          go_upto_region 8 with fail
          apply wp_region_GRL (K := KB w2.heap.size used p) 19 57 (by kernel_rfl) (KB.of_ext (Ext.refl w2).drew) (fun h1 h2 => h1.trans h2) (by kernel_rfl) (by kernel_rfl) (by kernel_rfl) (by kernel_rfl) (by kernel_rfl) rfl [fun v _ => v = _, fun v _ => v = _, fun v _ => v = _, fun v _ => v = _, fun v w' => ∃ q, v = .slice (some ⟨q, 0, none⟩) 0 0 ∧ w'.ownsRow w2.heap.size 3 1 (.slice (some ⟨q, 0, none⟩) 0 0) 0 [], fun v _ => v = _, fun v w' => ∃ A c, v = .slice A n c ∧ n ≤ c ∧ w'.ownsRow w2.heap.size 3 1 (.slice A n c) n (encI (castZ used)), fun v _ => v = _, fun v _ => v = _, fun v _ => v = _, fun v _ => v = _, fun v _ => v = _, fun v _ => v = _, fun v _ => v = .int .i64 (p : Int), fun v w' => ∃ q, v = .slice (some ⟨q, 0, none⟩) 1 1 ∧ w'.ownsRow w2.heap.size 3 1 (.slice (some ⟨q, 0, none⟩) 1 1) 1 [.int .i64 (p : Int)], fun v w' => ∃ A c, v = .slice A (n + 1) c ∧ n + 1 ≤ c ∧ w'.ownsRow w2.heap.size 3 1 (.slice A (n + 1) c) (n + 1) (encI (castZ (used ++ [p]))), fun v _ => v = _, fun v _ => v = _, fun v _ => v = .int .i64 ((max b (1 + B) : Nat) : Int)] rfl ⟨stabk_eq _ _, stabk_eq _ _, stabk_eq _ _, stabk_eq _ _, (fun v W W' ⟨q, h1, h2⟩ hK => ⟨q, h1, hK.pre 0 [] _ _ (Nat.zero_le _) h2⟩), stabk_eq _ _, (fun v W W' ⟨A, c, h1, h0, h2⟩ hK => ⟨A, c, h1, h0, hK.pre n _ A c (by rw [HN.out]; exact Nat.le_refl _) h2⟩), stabk_eq _ _, stabk_eq _ _, stabk_eq _ _, stabk_eq _ _, stabk_eq _ _, stabk_eq _ _, stabk_eq _ _, (fun v W W' ⟨q, h1, h2⟩ hK => ⟨q, h1, by
            rcases Nat.eq_zero_or_pos n with h | h
            · have hu0 : used = [] := List.length_eq_zero_iff.1 (by rw [HN.out, h])
              have := hK.ext (some ⟨q, 0, none⟩) 1
              rw [hu0] at this
              exact this h2
            · exact hK.pre 1 _ _ _ (by rw [HN.out]; exact h) h2⟩), (fun v W W' ⟨A, c, h1, h0, h2⟩ hK => ⟨A, c, h1, h0, by have h3 := hK.ext A c; rw [HN.out] at h3; exact h3 h2⟩), stabk_eq _ _, stabk_eq _ _, stabk_eq _ _, trivial⟩ ?R8hop ?R8fin
          case R8hop =>
            intro a w' hE hA
            have hEx := hE.toExt
            have cP' := (hEx.facts.1 _ _ hbP).trans cP
            have cR' := (hEx.facts.1 _ _ hbR).trans cR
            have hsz := hEx.size
            have HX := hide (HE2.out.trans hEx)
            have HXU := hide (Rds.ext HRU2.out hEx)
            clear hEx
            have HE := hide hE
            refine ⟨⟨⟨⟨⟨⟨⟨⟨⟨⟨⟨⟨⟨⟨⟨⟨⟨⟨⟨trivial, ?_⟩, ?_⟩, ?_⟩, ?_⟩, ?_⟩, ?_⟩, ?_⟩, ?_⟩, ?_⟩, ?_⟩, ?_⟩, ?_⟩, ?_⟩, ?_⟩, ?_⟩, ?_⟩, ?_⟩, ?_⟩, ?_⟩
            · intro hp
              have s7 := hA 7 (by rfl)
              simp [sl] at s7
              clear hp
              refine wpOp_of_list rfl rfl ?_
              go_wp2_with (fail)
              exact ⟨_, rfl, rfl, KB.of_ext (Ext.refl _)⟩
            · intro hp
              have s0 := hA 0 (by rfl)
              simp [sl] at s0
              clear hp
              refine wpOp_of_list rfl rfl ?_
              go_wp2_with (fail)
              exact ⟨_, rfl, rfl, KB.of_ext (Ext.refl _)⟩
            · intro hp
              have s1 := hA 1 (by rfl)
              simp [sl] at s1
              clear hp
              refine wpOp_of_list rfl rfl ?_
              go_wp2_with (fail)
              exact ⟨_, rfl, rfl, KB.of_ext (Ext.refl _)⟩
            · intro hp
              have s39 := hp 2 (by rfl)
              change a.tmps.getD 39 undef = _ at s39
              simp at s39
              clear hp
              refine wpOp_of_list rfl rfl ?_
              go_wp2_with (fail)
              exact ⟨_, rfl, rfl, KB.of_ext (Ext.refl _)⟩
            · intro hp
              clear hp
              refine wpOp_of_list rfl rfl ?_
              go_wp2_with (fail)
              exact ⟨_, rfl, ⟨w'.heap.size, rfl, own_mono (lit_own2 w' 3 1) hsz⟩, KB.of_ext ((Ext.refl _).alloc _)⟩
            · intro hp
              have s2 := hA 2 (by rfl)
              simp [sl] at s2
              clear hp
              refine wpOp_of_list rfl rfl ?_
              go_wp2_with (fail)
              exact ⟨_, rfl, rfl, KB.of_ext (Ext.refl _)⟩
            · intro hp
              have s41 := hp 4 (by rfl)
              obtain ⟨q, s41, hq⟩ := s41
              change a.tmps.getD 41 undef = _ at s41
              simp at s41
              have s42 := hp 5 (by rfl)
              change a.tmps.getD 42 undef = _ at s42
              simp at s42
              clear hp
              refine wpOp_of_list rfl rfl ?_
              by_cases hn0 : n = 0
              · refine wpList_append_nothing rfl _ _ 31 rfl 3 i0 Tryz.underlying31 hi (some ⟨q, 0, none⟩) 0 0 (by simp [go_sem, s41]) (Nat.le_refl _) U n cu hn0 (by simp [go_sem, s42]) ?_
                have hu0 : used = [] := List.length_eq_zero_iff.1 (by rw [HN.out]; exact hn0)
                go_wp2_with fail
                refine ⟨_, rfl, ⟨some ⟨q, 0, none⟩, 0, by rw [hn0], by omega, ?_⟩, KB.of_ext (Ext.refl _)⟩
                rw [hn0, hu0]
                exact hq
              · obtain ⟨bU, oU, rfl, hbU, hcU⟩ := HXU.out.2 (by omega)
                refine wpList_append_grows _ rfl _ _ 31 rfl 3 i0 (.int .i64 0) 1 8 Tryz.underlying31 hi hz0 hz1 hz2 rfl (by decide) (some ⟨q, 0, none⟩) 0 0 [] (by simp [go_sem, s41]) (fun e => by cases e) rfl (fun _ _ j u hu => by simp at hu) ⟨bU, oU, none⟩ n cu (encI (castZ used)) (by simp [go_sem, s42]) (by simpa using HXU.out.1) (news_rds hcU) (encI_one _) (by omega) (by unfold maxLen; omega) (by omega) ?_
                intro v' w9 hown9 hgrow9
                rw [Nat.zero_add] at hown9
                obtain ⟨A9, c9, rfl, _⟩ := own_slice hown9
                go_wp2_with fail
                exact ⟨_, rfl, ⟨A9, c9, rfl, (own_len hown9).1, own_mono (by simpa using hown9) hsz⟩, KB.of_ext (grown_ext hgrow9)⟩
            · intro hp
              have s0 := hA 0 (by rfl)
              simp [sl] at s0
              clear hp
              refine wpOp_of_list rfl rfl ?_
              go_wp2_with (fail)
              exact ⟨_, rfl, rfl, KB.of_ext (Ext.refl _)⟩
            · intro hp
              have s1 := hA 1 (by rfl)
              simp [sl] at s1
              clear hp
              refine wpOp_of_list rfl rfl ?_
              go_wp2_with (fail)
              exact ⟨_, rfl, rfl, KB.of_ext (Ext.refl _)⟩
            · intro hp
              have s44 := hp 7 (by rfl)
              change a.tmps.getD 44 undef = _ at s44
              simp at s44
              have s45 := hp 8 (by rfl)
              change a.tmps.getD 45 undef = _ at s45
              simp at s45
              clear hp
              refine wpOp_of_list rfl rfl ?_
              go_wp2_with (fail)
              exact ⟨_, rfl, rfl, KB.of_ext (Ext.refl _)⟩
            · intro hp
              have s46 := hp 9 (by rfl)
              change a.tmps.getD 46 undef = _ at s46
              simp at s46
              clear hp
              refine wpOp_of_list rfl rfl ?_
              go_wp2_with (fail)
              exact ⟨_, rfl, rfl, KB.of_ext (Ext.refl _)⟩
            · intro hp
              have s8 := hA 8 (by rfl)
              simp [sl] at s8
              clear hp
              refine wpOp_of_list rfl rfl ?_
              go_wp2_with (fail)
              exact ⟨_, rfl, rfl, KB.of_ext (Ext.refl _)⟩
            · intro hp
              have s47 := hp 10 (by rfl)
              change a.tmps.getD 47 undef = _ at s47
              simp at s47
              have s48 := hp 11 (by rfl)
              change a.tmps.getD 48 undef = _ at s48
              simp at s48
              clear hp
              refine wpOp_of_list rfl rfl ?_
              go_wp2_with (fail)
              exact ⟨_, rfl, rfl, KB.of_ext (Ext.refl _)⟩
            · intro hp
              have s49 := hp 12 (by rfl)
              change a.tmps.getD 49 undef = _ at s49
              simp at s49
              clear hp
              refine wpOp_of_list rfl rfl ?_
              go_wp2_with (fail)
              exact ⟨_, rfl, rfl, KB.of_ext (Ext.refl _)⟩
            · intro hp
              have s50 := hp 13 (by rfl)
              obtain s50 := s50
              change a.tmps.getD 50 undef = _ at s50
              simp at s50
              clear hp
              refine wpOp_of_list rfl rfl ?_
              go_wp2_with (fail)
              exact ⟨_, rfl, ⟨w'.heap.size, rfl, own_mono (World.ownsRow_lit (base := w'.heap.size) (e := 3) (size := 1) w' #[.int .i64 (p : Int)] 1 (Nat.le_refl _) (by unfold maxLen; omega) (by simp)) hsz⟩, KB.of_ext ((Ext.refl _).alloc _)⟩
            · intro hp
              have s43 := hp 6 (by rfl)
              obtain ⟨A6, c6, s43, hc6, ho6⟩ := s43
              change a.tmps.getD 43 undef = _ at s43
              simp at s43
              have s51 := hp 14 (by rfl)
              obtain ⟨q2, s51, hq2⟩ := s51
              change a.tmps.getD 51 undef = _ at s51
              simp at s51
              clear hp
              refine wpOp_of_list rfl rfl ?_
              have hnw : ∀ j u, [Value.int .i64 (p : Int)][j]? = some u → w'.cell? ((⟨q2, 0, none⟩ : Addr).add j) = some u := news_rds (fun j v hj => by
                rw [Nat.zero_add, hq2.cellAt j (by have := (List.getElem?_eq_some_iff.1 hj).1; simpa using this)]; exact hj)
              by_cases hfit : n + 1 ≤ c6
              · obtain ⟨r6, rfl, hr6⟩ : ∃ r6, A6 = some ⟨r6, 0, none⟩ ∧ w2.heap.size ≤ r6 := by
                  obtain ⟨Aq, cq, e1, _, q0, q1⟩ := own_slice ho6
                  injection e1 with e1 _ e2
                  subst e1 e2
                  cases A6 with
                  | none => rcases ho6.2 with ⟨q, _⟩ | ⟨_, _, _, q, _⟩ <;> (injection q with q1 q2 q3; first | omega | cases q1)
                  | some ad =>
                    obtain ⟨g, rfl, g1, _, _⟩ := q1 _ rfl
                    exact ⟨g, rfl, g1⟩
                refine wpList_append_fits _ rfl _ _ 31 rfl w2.heap.size 3 i0 1 Tryz.underlying31 hi hz1 r6 n c6 (encI (castZ used)) (by simp [go_sem, s43]) ho6 ⟨q2, 0, none⟩ 1 1 [.int .i64 (p : Int)] (by simp [go_sem, s51]) rfl hnw (enc_one _) hfit ?_
                intro w9 hown9 hgrow9
                rw [← castZ_snoc] at hown9
                go_wp2_with fail
                exact ⟨_, rfl, ⟨_, c6, rfl, hfit, hown9⟩, KB.fits hgrow9 hr6 (by rw [HN.out]; exact ho6) (by rw [HN.out]; exact hown9)⟩
              · refine wpList_append_grows _ rfl _ _ 31 rfl 3 i0 (.int .i64 0) 1 8 Tryz.underlying31 hi hz0 hz1 hz2 rfl (by decide) A6 n c6 (encI (castZ used)) (by simp [go_sem, s43]) (fun e => by subst e; rcases ho6.2 with ⟨q, _⟩ | ⟨_, _, _, q, _⟩ <;> (injection q with q1 q2 q3; first | exact ⟨q2, q3⟩ | cases q1)) (by simpa using ho6.1) (fun b e j u hu => by
                  subst e
                  obtain ⟨Aq, cq, e1, _, q0, q1⟩ := own_slice ho6
                  injection e1 with e1 _ e2
                  subst e1 e2
                  obtain ⟨g, rfl, g1, _, _⟩ := q1 _ rfl
                  exact news_rds (fun j v hj => by rw [Nat.zero_add, ho6.cellAt j (by have h := (List.getElem?_eq_some_iff.1 hj).1; have h2 := ho6.1; omega)]; exact hj) j u hu) ⟨q2, 0, none⟩ 1 1 [.int .i64 (p : Int)] (by simp [go_sem, s51]) rfl hnw (enc_one _) (by omega) (by unfold maxLen; omega) (by omega) ?_
                intro v' w9 hown9 hgrow9
                rw [← castZ_snoc] at hown9
                obtain ⟨A9, c9, rfl, _⟩ := own_slice hown9
                go_wp2_with fail
                exact ⟨_, rfl, ⟨A9, c9, rfl, (own_len hown9).1, own_mono hown9 hsz⟩, KB.of_ext (grown_ext hgrow9)⟩
            · intro hp
              have s38 := hp 1 (by rfl)
              change a.tmps.getD 38 undef = _ at s38
              simp at s38
              have s40 := hp 3 (by rfl)
              change a.tmps.getD 40 undef = _ at s40
              simp at s40
              have s52 := hp 15 (by rfl)
              obtain ⟨A7, c7, s52, hc7, ho7⟩ := s52
              change a.tmps.getD 52 undef = _ at s52
              simp at s52
              clear hp
              refine wpOp_of_list rfl rfl ?_
              go_wp2_with (go_at_call 78; refine (HC2.out _ HX.out A7 c7 hc7 (Rds.of_own ho7)).mono ?_; rintro e wq ⟨rfl, hbq⟩)
              exact ⟨_, rfl, rfl, KB.of_ext hbq⟩
            · intro hp
              have s53 := hp 16 (by rfl)
              change a.tmps.getD 53 undef = _ at s53
              simp at s53
              clear hp
              refine wpOp_of_list rfl rfl ?_
              go_wp2_with (fail)
              exact ⟨_, rfl, rfl, KB.of_ext (Ext.refl _)⟩
            · intro hp
              have s37 := hp 0 (by rfl)
              change a.tmps.getD 37 undef = _ at s37
              simp at s37
              have s54 := hp 17 (by rfl)
              change a.tmps.getD 54 undef = _ at s54
              simp at s54
              clear hp
              refine wpOp_of_list rfl rfl ?_
              go_wp2_with (fail)
              all_goals exact ⟨_, rfl, (by show Value.int IntKind.i64 _ = Value.int IntKind.i64 _; congr 1; omega), KB.of_ext (Ext.refl _)⟩
          case R8fin =>
            intro X w' hE hp
            obtain ⟨⟨⟨⟨⟨⟨⟨⟨⟨⟨⟨⟨⟨⟨⟨⟨⟨⟨⟨-, h0⟩, h1⟩, h2⟩, h3⟩, h4⟩, h5⟩, h6⟩, h7⟩, h8⟩, h9⟩, h10⟩, h11⟩, h12⟩, h13⟩, h14⟩, h15⟩, h16⟩, h17⟩, h18⟩ := hp
            change X 0 = _ at h0
            change X 1 = _ at h1
            change X 2 = _ at h2
            change X 3 = _ at h3
            obtain ⟨q, h4, hq⟩ := h4
            change X 4 = _ at h4
            change X 5 = _ at h5
            obtain ⟨A6, c6, h6, hc6, ho6⟩ := h6
            change X 6 = _ at h6
            change X 7 = _ at h7
            change X 8 = _ at h8
            change X 9 = _ at h9
            change X 10 = _ at h10
            change X 11 = _ at h11
            change X 12 = _ at h12
            obtain h13 := h13
            change X 13 = _ at h13
            obtain ⟨q2, h14, hq2⟩ := h14
            change X 14 = _ at h14
            obtain ⟨A7, c7, h15, hc7, ho7⟩ := h15
            change X 15 = _ at h15
            change X 16 = _ at h16
            change X 17 = _ at h17
            obtain h18 := h18
            change X 18 = _ at h18
            simp only [List.drop_succ_cons, List.drop_zero]
            go_simp
            have HXE := hide (HE2.out.trans hE.toExt)
            clear hE
            go_wp2_with fail
            go_roundw
            case rel => exact ⟨k + 1, by omega, by go_num, by rw [HBS2.out], HXE⟩
            case measure => simp [intOf]; omega
      · obtain rfl : k = r.length := by omega
        go_wp2_with fail
        go_ret
        exact ⟨rfl, HE.out⟩
end Go.Proofs.YtabgcpoaepafjaaGreat
