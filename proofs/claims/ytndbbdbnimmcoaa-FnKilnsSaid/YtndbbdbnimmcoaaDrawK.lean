/- Walks of the draws of firings. No condition but that the bytes are at most 1048576. -/
import Derived.Test.YtndbbdbnimmcoaaDraw
import Derived.Test.YtndbbdbnimmcoaaKilnS
import Derived.Test.YtndbbdbnimmcoaaMembers
import Derived.Test.YtndbbdbnimmcoaaFireS
import Derived.Test.YtndbbdbnimmcoaaOwn
set_option linter.unusedSimpArgs false
set_option linter.unusedVariables false
namespace Go.Proofs.Ytndbbdbnimmcoaa
open Go.RowKit

theorem l01PickInt_any (g : Nat) (l : List Int) (xs : List Int) (A : Option Addr) (c : Nat) (w : World) (hl : l.length ≤ 1048576) (h0 : 1 ≤ xs.length) (h1 : xs.length ≤ 256) (hc : Cur w g l) (hr : RI w A xs) (hA : ∀ b off, A = some ⟨b, off, none⟩ → b ≠ g) :
    Calls Try.prog 22 #[.pointer (some ⟨g, 0, none⟩), .slice A xs.length c] w fun e w' => ∃ x, e = .returned (.int .i64 x) ∧ x ∈ xs ∧ Cur w' g l ∧ w.grownBy w' (some g) := by
  have HC := hide hc
  have HR := hide hr
  have HA := hide hA
  clear hc hr hA
  go_enter Try.func22, Try.ntmps22
  go_wp2_with fail
  refine (l01Below_any g xs.length l _ hl (by omega) (by omega) HC.out).mono ?_; rintro e w1 ⟨x, rfl, hx0, hx1, hc1, hg1⟩
  obtain ⟨k, rfl⟩ := Int.eq_ofNat_of_zero_le hx0
  have hk : k < xs.length := by omega
  obtain ⟨b, off, rfl, hb, e0⟩ := RI.at_ HR.out hk
  have hne := HA.out b off rfl
  have e1 : w1.cell? ⟨b, off + k, none⟩ = some (.int .i64 xs[k]) := by
    rw [← e0]
    simp only [World.cell?]
    rw [hg1.block b hb (fun e => hne (by injection e))]
  have HM := hide (List.getElem_mem hk)
  have H1 := hide hc1
  have G1 := hide hg1
  clear hc1 hg1 e0
  go_wp2_with fail
  go_ret
  exact ⟨_, rfl, HM.out, H1.out, G1.out⟩
theorem Rds.notG {w : World} {sz n g : Nat} {A : Option Addr} {xs : List Value} (h : Rds w sz A n xs) (h0 : 0 < n) (hg : w.heap.size ≤ g) : ∀ b off, A = some ⟨b, off, none⟩ → b ≠ g := fun b off e => by
  obtain ⟨b', off', e', hb, _⟩ := h.2 h0
  rw [e] at e'
  injection e' with e'
  injection e' with e' _ _
  omega
def firingIn (s : P3) : Prop := (s.1 = 600 ∨ s.1 = 650) ∧ (s.2.1 = 4 ∨ s.2.1 = 6) ∧ 10 ≤ s.2.2 ∧ s.2.2 ≤ 69
theorem own_notG {w : World} {base n sz g : Nat} {e : TypeId} {v : Value} {xs : List Value} (h : w.ownsRow base e sz v n xs) (hg : g < base) : v.ownBlock = none ∨ v.ownBlock ≠ some g := by
  rcases hv : v.ownBlock with _ | k
  · exact .inl rfl
  · refine .inr (fun e => ?_)
    have a1 := (h.lt k hv).1
    injection e with e
    omega
theorem own_some {w : World} {base n sz : Nat} {e : TypeId} {v : Value} {xs : List Value} (h : w.ownsRow base e sz v n xs) (hv : v ≠ .slice none 0 0) : ∃ g c, v = .slice (some ⟨g, 0, none⟩) n c := by
  rcases h.2 with ⟨e, _⟩ | ⟨g, cap, cur, e, _⟩
  · exact absurd e hv
  · exact ⟨g, cap, e⟩
theorem Cur.grown {w w' : World} {g : Nat} {l : List Int} {row : Option Nat} (h : Cur w g l) (hg : w.grownBy w' row) (hr : ∀ k, row = some k → g < k) : Cur w' g l := by
  obtain ⟨A, c, i, h', h1, h2, h3, h4⟩ := h
  refine ⟨A, c, i, h', h1, h2.grown hg (fun e => by have := hr _ e; omega), ⟨?_, h3.2⟩, h4⟩
  rcases Nat.eq_zero_or_pos l.length with e | e
  · exact ⟨h3.1.1, fun h => absurd h (by omega)⟩
  · exact h3.1.grown hg (fun b off e1 e2 => by have := h4 e b off e1; have := hr _ e2; omega)
theorem grown_row {w w1 w2 : World} {g : Nat} {row : Option Nat} (h : w.grownBy w1 (some g)) (h2 : w1.grownBy w2 row) (hr : ∀ k, row = some k → w.heap.size ≤ k) : w.grownBy w2 (some g) :=
  ⟨h2.os.trans h.os, h2.tape.trans h.tape, h2.output.trans h.output, Nat.le_trans h.size h2.size, fun q hq hn => (h2.block q (Nat.lt_of_lt_of_le hq h.size) (fun e => by have := hr q e.symm; omega)).trans (h.block q hq hn)⟩
set_option maxHeartbeats 2000000 in
theorem l22List_any (g : Nat) (l : List Int) (w : World) (hl : l.length ≤ 1048576) (hc : Cur w g l) :
    Calls Try.prog 12 #[.pointer (some ⟨g, 0, none⟩)] w fun e w' => ∃ (L : List P3) (gr : Nat) (c : Nat), e = .returned (.slice (some ⟨gr, 0, none⟩) L.length c) ∧ L.length ≤ 7 ∧ (∀ s ∈ L, firingIn s) ∧ w'.ownsRow w.heap.size 30 3 (.slice (some ⟨gr, 0, none⟩) L.length c) L.length (enc3 L) ∧ Cur w' g l ∧ w.grownBy w' (some g) := by
  obtain ⟨i0, hi, hz0, hz1, hz2⟩ := info_parts firing_info
  have HC := hide hc
  have hgl := hc.lt
  clear hc
  have ho0 : (w.alloc (.cells #[] 30)).ownsRow w.heap.size 30 3 (.slice (some ⟨w.heap.size, 0, none⟩) 0 0) 0 [] := World.ownsRow_lit (base := w.heap.size) (e := 30) (size := 3) w #[] 0 (Nat.le_refl _) (Nat.zero_le _) rfl
  have HO0 := hide ho0
  clear ho0
  go_enter Try.func12, Try.ntmps12
  go_wp2_with fail
  refine (l01Below_any g 8 l _ hl (by omega) (by omega) (HC.out.ext ((Ext.refl _).alloc _))).mono ?_; rintro e w1 ⟨n, rfl, hn0, hn1, hc1, hg1⟩
  obtain ⟨N, rfl⟩ := Int.eq_ofNat_of_zero_le hn0
  have HC1 := hide hc1
  have HG1 := hide ((World.grownBy_alloc w _ _).trans hg1)
  have HO1 := hide (HO0.out.kept hg1 (own_notG HO0.out hgl))
  clear hc1 hg1 HO0 HC
  go_wp2_with fail
  go_loopw [3, 5] (fun v i wr => ∃ k : Nat, k ≤ N ∧ i = .int .i64 k ∧ (∃ L : List P3, L.length = k ∧ (∀ s ∈ L, firingIn s) ∧ wr.ownsRow w.heap.size 30 3 v k (enc3 L)) ∧ Hid (v ≠ .slice none 0 0) ∧ Cur wr g l ∧ w.grownBy wr (some g)) (fun _ i _ => N - (intOf i).toNat)
  case atStart => exact ⟨0, Nat.zero_le _, rfl, ⟨[], rfl, by simp, HO1.out⟩, hide (fun e => by cases e), HC1.out, HG1.out⟩
  case round =>
    obtain ⟨k, hk, rfl, ⟨L, rfl, hL, hown⟩, hnn, hcr, hgr⟩ := hrel
    have HO := hide hown
    have HL := hide hL
    have HG := hide hgr
    have HCr := hide hcr
    have hsz := hgr.size
    clear hown hL hgr hcr HC1 HG1 HO1
    by_cases hlt : L.length < N
    · obtain ⟨Av, cv, hv, _, _, _⟩ := own_slice HO.out
      subst hv
      go_wp2_with fail
      refine (l01PickInt_any g l [600, 600, 650] _ _ _ hl (by decide) (by decide) (HCr.out.ext ((Ext.refl _).alloc _)) (Rds_new wr _ 3 1 wr.heap.size _ rfl rfl) (fun b off e => by injection e with e; injection e with e _ _; omega)).mono ?_; rintro e w2 ⟨x, rfl, hx, hc2, hg2⟩
      have hx' : x = 600 ∨ x = 650 := by simpa using hx
      have HC2 := hide hc2
      have E2 := (World.grownBy_alloc wr _ (some g)).trans hg2
      have HO2 := hide (HO.out.kept E2 (own_notG HO.out hgl))
      have HG2 := hide (HG.out.trans E2)
      have hsz2 := E2.size
      clear hx hc2 hg2 E2
      go_wp2_with fail
      refine (l01PickInt_any g l [4, 4, 6] _ _ _ hl (by decide) (by decide) (HC2.out.ext ((Ext.refl _).alloc _)) (Rds_new w2 _ 3 1 w2.heap.size _ rfl rfl) (fun b off e => by injection e with e; injection e with e _ _; omega)).mono ?_; rintro e w3 ⟨y, rfl, hy, hc3, hg3⟩
      have hy' : y = 4 ∨ y = 6 := by simpa using hy
      have HC3 := hide hc3
      have E3 := (World.grownBy_alloc w2 _ (some g)).trans hg3
      have HO3 := hide (HO2.out.kept E3 (own_notG HO.out hgl))
      have HG3 := hide (HG2.out.trans E3)
      have hsz3 := E3.size
      clear hy hc3 hg3 E3
      go_wp2_with fail
      refine (l01Below_any g 60 l _ hl (by omega) (by omega) HC3.out).mono ?_; rintro e w4 ⟨z, rfl, hz0', hz1', hc4, hg4⟩
      have HC4 := hide hc4
      have HO4 := hide (HO3.out.kept hg4 (own_notG HO.out hgl))
      have HG4 := hide (HG3.out.trans hg4)
      have hsz4 := hg4.size
      clear hc4 hg4 HC2 HC3 HG2 HG3 HO2 HO3 HO HCr HG
      go_wp2_with (at_builtin; refine wpList_append_own _ rfl _ _ 24 rfl w.heap.size 30 i0 (.agg #[.int .i64 0, .int .i64 0, .int .i64 0]) 3 24 Try.underlying24 hi hz0 hz1 hz2 rfl (by decide) (.slice Av L.length cv) L.length (enc3 L) rfl (own_ext HO4.out ((Ext.refl _).alloc _)) ⟨w4.heap.size, 0, none⟩ 1 1 [.int .i64 x, .int .i64 y, .int .i64 (10 + z)] rfl rfl (news_new w4 #[.int .i64 x, .int .i64 y, .int .i64 (10 + z)] 30) (enc3_one [(x, y, 10 + z)]) (by unfold maxLen; omega) (by omega) (by first | (simp; done) | (simp; omega)) ?_; intro v' w5 hown5 hgrow5 hnil)
      have hb5 : ∀ k, (Value.slice Av L.length cv).ownBlock = some k → w.heap.size ≤ k := own_base HO4.out (Nat.le_refl _)
      have hG5 := grown_row (HG4.out.trans (World.grownBy_alloc w4 _ (some g))) hgrow5 hb5
      have hC5 := (HC4.out.ext ((Ext.refl _).alloc _)).grown hgrow5 (fun k e => by have := hb5 k e; omega)
      go_wp2_with fail
      go_roundw
      case rel =>
        refine ⟨L.length + 1, by omega, by go_num, ⟨L ++ [(x, y, 10 + z)], by simp, fun s hs => ?_, by rw [enc3_append]; exact hown5⟩, hide (fun e => by have := (hnil.1 e).2; omega), hC5, hG5⟩
        rcases List.mem_append.1 hs with hs | hs
        · exact HL.out s hs
        · have e : s = (x, y, 10 + z) := by simpa using hs
          subst e
          exact ⟨hx', hy', by simp; omega, by simp; omega⟩
      case measure => simp [intOf]; omega
    · obtain ⟨gv, cv, hv⟩ := own_some HO.out hnn.out
      subst hv
      go_wp2_with fail
      go_ret
      exact ⟨L, gv, cv, rfl, by omega, HL.out, HO.out, HCr.out, HG.out⟩
theorem DrawFirings_any (l : List Int) (A : Option Addr) (c : Nat) (w : World) (hl : l.length ≤ 1048576) (hr : RB w A l) :
    Calls Try.prog 5 #[.slice A l.length c] w fun e w' => ∃ (L : List P3) (gr : Nat) (cr : Nat), e = .returned (.slice (some ⟨gr, 0, none⟩) L.length cr) ∧ L.length ≤ 7 ∧ (∀ s ∈ L, firingIn s) ∧ w'.ownsRow w.heap.size 30 3 (.slice (some ⟨gr, 0, none⟩) L.length cr) L.length (enc3 L) ∧ Ext w w' := by
  have HR := hide hr
  clear hr
  go_enter Try.func5, Try.ntmps5
  go_wp2_with fail
  refine (l01New_any l A c _ hl HR.out).mono ?_; rintro e w1 ⟨g, rfl, hg, hc, hE⟩
  have HC := hide hc
  have HE := hide hE
  clear hc hE
  go_wp2_with fail
  refine (l22List_any g l _ hl HC.out).mono ?_; rintro e w2 ⟨L, gr, cr, rfl, h7, hL, hown, hc2, hg2⟩
  have HO := hide (own_mono hown HE.out.size)
  have HL := hide hL
  have HE2 := hide (Ext.grown HE.out hg2 (fun k e => by injection e with e; omega))
  clear hown hL hc2 hg2 HC HE
  go_wp2_with fail
  go_ret
  exact ⟨L, gr, cr, rfl, h7, HL.out, HO.out, HE2.out⟩
end Go.Proofs.Ytndbbdbnimmcoaa
