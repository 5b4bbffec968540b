/- The walks of the reference's small words on windows: a copy, a drawn node. No condition. -/
import Derived.Test.YtabgcpoaepafjaaGreatWinW
import Derived.ArgAppend
set_option linter.unusedSimpArgs false
set_option linter.unusedVariables false
namespace Go.Proofs.YtabgcpoaepafjaaGreat
open Go.RowKit

theorem one2n (a b : Int) : ∀ u ∈ [Value.int .i64 a, Value.int .i64 b], u.oneCell' = true := by intro u hu; simp at hu; rcases hu with rfl | rfl <;> rfl
theorem own_setk {w : World} {base n sz k o : Nat} {T : TypeId} {v : Value} {xs : List Value} (h : w.ownsRow base T sz v n xs) (hb : k < base) (u : Value) : (w.setCell ⟨k, o, none⟩ u).ownsRow base T sz v n xs :=
  h.kept (w' := w.setCell ⟨k, o, none⟩ u) (row := some k) ⟨rfl, rfl, rfl, by simp, fun q _ hk => Below.heap_setCell _ _ _ _ (fun e => hk (by rw [e]))⟩ (.inr fun e => by have := (h.lt k e).1; omega)
theorem own_apart2 {w : World} {b1 b2 n1 n2 s1 s2 : Nat} {T1 T2 : TypeId} {v1 v2 : Value} {x1 x2 : List Value} (h1 : w.ownsRow b1 T1 s1 v1 n1 x1) (h2 : w.ownsRow b2 T2 s2 v2 n2 x2) (hT : T1 ≠ T2) : ∀ k, v1.ownBlock = some k → v2.ownBlock ≠ some k := by
  intro k e1 e2
  rcases h1.2 with ⟨rfl, _⟩ | ⟨g1, c1, cur1, rfl, _, q1, _⟩
  · cases e1
  · rcases h2.2 with ⟨rfl, _⟩ | ⟨g2, c2, cur2, rfl, _, q2, _⟩
    · cases e2
    · have a1 : some g1 = some k := e1
      have a2 : some g2 = some k := e2
      injection a1 with a1
      injection a2 with a2
      subst a1 a2
      rw [q1] at q2
      injection q2 with q2
      injection q2 with _ q2
      exact hT q2
theorem news_rds {w : World} {b off : Nat} {xs : List Value} (h : ∀ j v, xs[j]? = some v → w.cell? ⟨b, off + j, none⟩ = some v) : ∀ j u, xs[j]? = some u → w.cell? ((⟨b, off, none⟩ : Addr).add j) = some u := fun j u hu => by
  have e : (⟨b, off, none⟩ : Addr).add j = ⟨b, off + j, none⟩ := by unfold Addr.add; split <;> simp_all
  rw [e]
  exact h j u hu
theorem stab_own (B : Nat) (T : TypeId) (s n : Nat) (xs : List Value) : Stab (fun v w => w.ownsRow B T s v n xs) := fun _ _ _ h hE => own_ext h hE
theorem stab_any (p : Value → Prop) : Stab (fun v _ => p v) := fun _ _ _ h _ => h
theorem l01Once_any (g : Nat) (n : Int) (l : List Int) (w : World) (hl : l.length ≤ 1048576) (hn : 1 ≤ n) (hn' : n ≤ 256) (hc : Cur w g l) :
    Calls Tryz.prog 80 #[.pointer (some ⟨g, 0, none⟩), .int .i64 n] w fun e w' => ∃ b, e = .returned (.bool b) ∧ Cur w' g l ∧ w.grownBy w' (some g) := by
  have HC := hide hc
  clear hc
  go_enter Tryz.func80, Tryz.ntmps80
  go_wp2_with fail
  refine (l01Below_any g n l _ hl hn hn' HC.out).mono ?_; rintro e w1 ⟨x, rfl, hx0, hx1, hc1, hg1⟩
  have H1 := hide hc1
  have G1 := hide hg1
  clear hc1 hg1
  go_wp2_with fail
  go_ret
  exact ⟨_, rfl, H1.out, G1.out⟩
set_option maxRecDepth 20000 in
set_option maxHeartbeats 400000 in
theorem l04Copy_any (N E : List P2) (A B : Option Addr) (c c' : Nat) (w : World) (hw : WR w N E A B c c') (hN : 0 < N.length) (hE1 : 0 < E.length) :
    Calls Tryz.prog 128 #[.agg #[.slice A N.length c, .slice B E.length c']] w fun e w' => ∃ A2 B2 d d', e = .returned (.agg #[.slice A2 N.length d, .slice B2 E.length d']) ∧ w'.ownsRow w.heap.size 84 2 (.slice A2 N.length d) N.length (enc2 N) ∧ w'.ownsRow w.heap.size 110 2 (.slice B2 E.length d') E.length (enc2 E) ∧ Ext w w' := by
  obtain ⟨i0, hi, hz0, hz1, hz2⟩ := info_parts nodeI_info
  obtain ⟨j0, hj, hy0, hy1, hy2⟩ := info_parts leadI_info
  have hNl := hw.hN
  have hEl := hw.hE
  have HW := hide hw
  clear hw
  
  go_enter Tryz.func128, Tryz.ntmps128
  go_wp2_with fail
  obtain ⟨w0, hw⟩ : ∃ w1, w1 = (w.alloc (Obj.cells #[Value.slice A N.length c, Value.slice B E.length c'] 27)).alloc (Obj.cells #[Value.slice none 0 0, Value.slice none 0 0] 27) := ⟨_, rfl⟩; rw [← hw]; have kT : Tr [(w.heap.size, [.slice A N.length c, .slice B E.length c']), (w.heap.size + 1, [.slice none 0 0, .slice none 0 0])] w w0 := (by rw [hw]; exact ⟨by (first | (simp [Bx, CellsAt, go_sem, *]; done) | (simp [Bx, CellsAt, go_sem, *]; omega)), by (repeat (first | exact kE | exact Ext.refl _ | apply Ext.alloc | apply Ext.drewN | apply Ext.drew | apply Ext.set0 | apply Ext.set1 | apply Ext.set2 | apply Ext.set3 | (refine Ext.setk ?_ (by omega) _) | (apply Ext.snoc; assumption)))⟩); have HT := hide kT; clear hw kT; have kT := HT.out; simp only [Tr, Bx, CellsAt, Nat.reduceAdd, Nat.zero_add, and_true] at kT; obtain ⟨⟨⟨kz0, kf0, kc0_0, kc0_1⟩, ⟨kz1, kf1, kc1_0, kc1_1⟩⟩, kE⟩ := kT
  have HZ := hide kz1
  have HT0 := HT
  have HE0 := hide kE
  refine wp_region_VL [fun v _ => ∃ g, v = .slice (some ⟨g, 0, none⟩) 0 0, fun v _ => v = .pointer (some ⟨w.heap.size, 0, none⟩), fun v _ => v = .slice A N.length c, fun v w' => w'.ownsRow w0.heap.size 84 2 v N.length (enc2 N), fun v _ => ∃ g, v = .slice (some ⟨g, 0, none⟩) 0 0, fun v _ => v = .pointer (some ⟨w.heap.size, 1, none⟩), fun v _ => v = .slice B E.length c', fun v w' => w'.ownsRow w0.heap.size 110 2 v E.length (enc2 E), fun v w' => ∃ x y, v = .agg #[x, y] ∧ w'.ownsRow w0.heap.size 84 2 x N.length (enc2 N) ∧ w'.ownsRow w0.heap.size 110 2 y E.length (enc2 E)]
    (by kernel_rfl) (by kernel_rfl) (by kernel_rfl) (by kernel_rfl) (by kernel_rfl) ⟨stab_any _, stab_eq _, stab_eq _, stab_own _ _ _ _ _, stab_any _, stab_eq _, stab_eq _, stab_own _ _ _ _ _, fun _ _ _ ⟨x, y, h1, h2, h3⟩ hE => ⟨x, y, h1, own_ext h2 hE, own_ext h3 hE⟩, trivial⟩ ?_ ?_
  · intro X w' hE
    have hc := hE.facts.1
    have hsz := hE.size
    refine ⟨⟨⟨⟨⟨⟨⟨⟨⟨trivial, ?_⟩, ?_⟩, ?_⟩, ?_⟩, ?_⟩, ?_⟩, ?_⟩, ?_⟩, ?_⟩
    · intro hp
      refine wpOp_of_list rfl rfl ?_
      go_wp2_with fail
      (try go_simp)
      exact regpost rfl ⟨w'.heap.size, rfl⟩ (by simp only [List.setIfInBounds_toArray, List.set_cons_zero, List.set_cons_succ]) ((Ext.refl _).alloc _)
    · intro hp
      refine wpOp_of_list rfl rfl ?_
      go_wp2_with fail
      (try go_simp)
      exact regpost rfl rfl (by simp only [List.setIfInBounds_toArray, List.set_cons_zero, List.set_cons_succ]) (Ext.refl _)
    · intro hp
      have h1 := hp 1 (by kernel_rfl)
      change X 1 = _ at h1
      refine wpOp_of_list rfl rfl ?_
      go_wp2_with fail
      (try go_simp)
      exact regpost rfl rfl (by simp only [List.setIfInBounds_toArray, List.set_cons_zero, List.set_cons_succ]) (Ext.refl _)
    · intro hp
      obtain ⟨g, h0⟩ : ∃ g, X 0 = .slice (some ⟨g, 0, none⟩) 0 0 := hp 0 (by kernel_rfl)
      have h2 := hp 2 (by kernel_rfl)
      change X 2 = _ at h2
      obtain ⟨b, off, rfl, hb, hcs⟩ := (HW.out.hr.ext (HE0.out.trans hE)).2 hN
      refine wpOp_of_list rfl rfl ?_
      go_simp
      refine wpList_append_grows _ rfl _ _ 24 rfl 84 i0 (.agg #[.int .i64 0, .int .i64 0]) 2 16 Tryz.underlying24 hi hz0 hz1 hz2 rfl (by decide) (some ⟨g, 0, none⟩) 0 0 [] (by first | with_reducible rfl | (simp [go_sem]; done)) (fun e => by cases e) rfl (fun _ _ j u hu => by simp at hu) ⟨b, off, none⟩ N.length c (enc2 N) (by first | with_reducible rfl | (simp [go_sem]; done)) (enc2_length _) (news_rds hcs) (enc2_one _) (by omega) (by unfold maxLen; omega) (by omega) ?_
      intro v' w4 hown4 hgrow4
      have hown5 : w4.ownsRow w0.heap.size 84 2 v' N.length (enc2 N) := own_mono (by simpa using hown4) hsz
      have hb1 : Ext w' w4 := grown_ext hgrow4
      go_wp2_with fail
      (try go_simp)
      refine regpost (v := v') rfl ?_ (by simp only [List.setIfInBounds_toArray, List.set_cons_zero, List.set_cons_succ]) hb1
      exact hown5
    · intro hp
      refine wpOp_of_list rfl rfl ?_
      go_wp2_with fail
      (try go_simp)
      exact regpost rfl ⟨w'.heap.size, rfl⟩ (by simp only [List.setIfInBounds_toArray, List.set_cons_zero, List.set_cons_succ]) ((Ext.refl _).alloc _)
    · intro hp
      refine wpOp_of_list rfl rfl ?_
      go_wp2_with fail
      (try go_simp)
      exact regpost rfl rfl (by simp only [List.setIfInBounds_toArray, List.set_cons_zero, List.set_cons_succ]) (Ext.refl _)
    · intro hp
      have h5 := hp 5 (by kernel_rfl)
      change X 5 = _ at h5
      refine wpOp_of_list rfl rfl ?_
      go_wp2_with fail
      (try go_simp)
      exact regpost rfl rfl (by simp only [List.setIfInBounds_toArray, List.set_cons_zero, List.set_cons_succ]) (Ext.refl _)
    · intro hp
      obtain ⟨g, h0⟩ : ∃ g, X 4 = .slice (some ⟨g, 0, none⟩) 0 0 := hp 4 (by kernel_rfl)
      have h2 := hp 6 (by kernel_rfl)
      change X 6 = _ at h2
      obtain ⟨b, off, rfl, hb, hcs⟩ := (HW.out.hs.ext (HE0.out.trans hE)).2 hE1
      refine wpOp_of_list rfl rfl ?_
      go_simp
      refine wpList_append_grows _ rfl _ _ 25 rfl 110 j0 (.agg #[.int .i64 0, .int .i64 0]) 2 16 Tryz.underlying25 hj hy0 hy1 hy2 rfl (by decide) (some ⟨g, 0, none⟩) 0 0 [] (by first | with_reducible rfl | (simp [go_sem]; done)) (fun e => by cases e) rfl (fun _ _ j u hu => by simp at hu) ⟨b, off, none⟩ E.length c' (enc2 E) (by first | with_reducible rfl | (simp [go_sem]; done)) (enc2_length _) (news_rds hcs) (enc2_one _) (by omega) (by unfold maxLen; omega) (by omega) ?_
      intro v' w4 hown4 hgrow4
      have hown5 : w4.ownsRow w0.heap.size 110 2 v' E.length (enc2 E) := own_mono (by simpa using hown4) hsz
      have hb1 : Ext w' w4 := grown_ext hgrow4
      go_wp2_with fail
      (try go_simp)
      refine regpost (v := v') rfl ?_ (by simp only [List.setIfInBounds_toArray, List.set_cons_zero, List.set_cons_succ]) hb1
      exact hown5
    · intro hp
      have h3 : w'.ownsRow w0.heap.size 84 2 (X 3) N.length (enc2 N) := hp 3 (by kernel_rfl)
      have h7 : w'.ownsRow w0.heap.size 110 2 (X 7) E.length (enc2 E) := hp 7 (by kernel_rfl)
      obtain ⟨A3, d3, e3, _⟩ := own_slice h3
      obtain ⟨A7, d7, e7, _⟩ := own_slice h7
      have hv : ∃ x y, (Value.agg #[.slice A3 N.length d3, .slice A7 E.length d7]) = .agg #[x, y] ∧ w'.ownsRow w0.heap.size 84 2 x N.length (enc2 N) ∧ w'.ownsRow w0.heap.size 110 2 y E.length (enc2 E) := ⟨_, _, rfl, e3 ▸ h3, e7 ▸ h7⟩
      have HV := hide hv
      clear hv h3 h7 hp
      refine wpOp_of_list rfl rfl ?_
      go_wp2_with fail
      (try go_simp)
      refine regpost (v := .agg #[.slice A3 N.length d3, .slice A7 E.length d7]) rfl ?_ (by simp only [List.setIfInBounds_toArray, List.set_cons_zero, List.set_cons_succ]) (Ext.refl _)
      exact HV.out
  · intro X w' hE hp
    have h8 : ∃ x y, X 8 = .agg #[x, y] ∧ w'.ownsRow w0.heap.size 84 2 x N.length (enc2 N) ∧ w'.ownsRow w0.heap.size 110 2 y E.length (enc2 E) := hp.2
    obtain ⟨x, y, h8, ho1, ho2⟩ := h8
    obtain ⟨A2, d, rfl, _⟩ := own_slice ho1
    obtain ⟨B2, d', rfl, _⟩ := own_slice ho2
    have HO1 := hide ho1
    have HO2 := hide ho2
    have HT := hide (HT0.out.ext hE)
    clear ho1 ho2 hp
    clear kz0 kf0 kc0_0 kc0_1 kz1 kf1 kc1_0 kc1_1 kE
    have kT := HT.out; simp only [Tr, Bx, CellsAt, Nat.reduceAdd, Nat.zero_add, and_true] at kT; obtain ⟨⟨⟨kz0, kf0, kc0_0, kc0_1⟩, ⟨kz1, kf1, kc1_0, kc1_1⟩⟩, kE⟩ := kT
    simp only [List.length_cons, List.length_nil, Nat.reduceAdd, List.drop_succ_cons, List.drop_zero]
    go_wp2_with fail
    refine bodyPost_ret (v := .agg #[.slice A2 N.length d, .slice B2 E.length d']) (by simp only [results, Tryz.results128]; go_simp) rfl ⟨A2, B2, d, d', rfl, ?_, ?_, ?_⟩
    · exact own_mono (own_setk (own_setk HO1.out HZ.out _) HZ.out _) (by have := HZ.out; omega)
    · exact own_mono (own_setk (own_setk HO2.out HZ.out _) HZ.out _) (by have := HZ.out; omega)
    · exact (kE.setk (by omega) _).setk (by omega) _
end Go.Proofs.YtabgcpoaepafjaaGreat
