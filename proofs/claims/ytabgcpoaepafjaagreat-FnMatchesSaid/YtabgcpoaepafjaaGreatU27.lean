/- Words and walks for the law FnMatches, a part of them. No condition but that the arguments lie in memory. -/
import Derived.Test.YtabgcpoaepafjaaGreatU2
import Derived.Test.YtabgcpoaepafjaaGreatU5
import Derived.Test.YtabgcpoaepafjaaGreatU20
import Derived.Test.YtabgcpoaepafjaaGreatU26
set_option linter.unusedVariables false
set_option linter.unusedSimpArgs false
namespace Go.Proofs.YtabgcpoaepafjaaGreat
open Go.RowKit
/-- Rows of nodes in blocks of their own under a row of headers that grows. -/
def SNN (w : World) (base : Nat) (v : Value) (k : Nat) (L : List (List P2)) (hs : List Value) : Prop :=
  w.ownsRow base 24 1 v k hs ∧ L.length = k ∧ ∀ i, i < k → ∃ (B : Option Addr) (c : Nat), hs[i]? = some (.slice B (L.getD i []).length c) ∧ w.ownsRow base 84 2 (.slice B (L.getD i []).length c) (L.getD i []).length (enc2 (L.getD i []))
section
variable {w w' : World} {base k : Nat} {v v' : Value} {L : List (List P2)} {hs : List Value}
theorem SNN.ext (h : SNN w base v k L hs) (hE : Ext w w') : SNN w' base v k L hs :=
  ⟨own_ext h.1 hE, h.2.1, fun i hi => by obtain ⟨B, c, e1, e2⟩ := h.2.2 i hi; exact ⟨B, c, e1, own_ext e2 hE⟩⟩
theorem SNN.gx {g : Nat} {l : List Int} (h : SNN w base v k L hs) (hG : Gx g l w w') (hg : g < base) : SNN w' base v k L hs := by
  have keep : ∀ {T : TypeId} {sz n : Nat} {u : Value} {xs : List Value}, w.ownsRow base T sz u n xs → w'.ownsRow base T sz u n xs := fun {T sz n u xs} q => q.kept hG.gr (.inr fun e => by have := (q.lt g e).1; omega)
  exact ⟨keep h.1, h.2.1, fun i hi => by obtain ⟨B, c, e1, e2⟩ := h.2.2 i hi; exact ⟨B, c, e1, keep e2⟩⟩
theorem SNN.lit (hw : w.ownsRow base 24 1 v 0 []) : SNN w base v 0 [] [] := ⟨hw, rfl, fun i hi => absurd hi (by omega)⟩
theorem SNN.app {B : Option Addr} {c : Nat} {S : List P2} {o : Obj} (h : SNN w base v k L hs) (hr : w.ownsRow base 84 2 (.slice B S.length c) S.length (enc2 S))
    (hown : w'.ownsRow base 24 1 v' (k + 1) (hs ++ [.slice B S.length c])) (hg : (w.alloc o).grownBy w' v.ownBlock) : SNN w' base v' (k + 1) (L ++ [S]) (hs ++ [.slice B S.length c]) := by
  have hl := h.1.1
  have hL := h.2.1
  have keep : ∀ {n : Nat} {u : Value} {xs : List Value}, w.ownsRow base 84 2 u n xs → w'.ownsRow base 84 2 u n xs := fun {n u xs} q => by
    have q2 := own_ext q ((Ext.refl w).alloc o)
    refine q2.kept hg ?_
    cases hu : u.ownBlock with
    | none => exact .inl rfl
    | some x => exact .inr fun e => own_apart2 q h.1 (by decide) x hu e.symm
  refine ⟨hown, by simp [hL], fun i hi => ?_⟩
  by_cases e : i = k
  · subst e
    have e2 : (L ++ [S]).getD i [] = S := by simp [List.getD, ← hL]
    rw [e2]
    exact ⟨B, c, by rw [List.getElem?_append_right (by omega)]; simp [hl], keep hr⟩
  · obtain ⟨B2, c2, e1, e3⟩ := h.2.2 i (by omega)
    have e2 : (L ++ [S]).getD i [] = L.getD i [] := by simp [List.getD, List.getElem?_append_left (show i < L.length by omega)]
    rw [e2]
    exact ⟨B2, c2, by rw [List.getElem?_append_left (by omega)]; exact e1, keep e3⟩
theorem own_le {w : World} {base n c sz : Nat} {A : Option Addr} {T : TypeId} {xs : List Value} (h : w.ownsRow base T sz (.slice A n c) n xs) : n ≤ c ∧ c ≤ maxLen := by
  rcases h.2 with ⟨q, h0⟩ | ⟨_, cap, _, q, _, _, hn, hc, _⟩
  · injection q with _ _ q
    omega
  · injection q with _ _ q
    omega
theorem SNN.rss {A : Option Addr} {c : Nat} (h : SNN w base (.slice A k c) k L hs) : RSS w A L := by
  have hL := h.2.1
  subst hL
  refine ⟨hs, Rds.of_own h.1, fun i hi => ?_⟩
  obtain ⟨B, c2, e1, e2⟩ := h.2.2 i hi
  have e : L.getD i [] = L[i] := by simp [hi]
  rw [e] at e1 e2
  have := own_le e2
  exact ⟨B, c2, e1, this.1, this.2, Rds.of_own e2⟩
end
/-! walks -/
theorem nodess_info : (Tryz.prog.info? 24).map (fun i => (i.zero, i.size, i.bytes)) = some (some (.slice none 0 0), 1, 24) := by kernel_rfl
def lenS : Value → Nat
  | .slice _ m _ => m
  | _ => 0
theorem turnV_le (l : List P2) : (Shp.turnV l).length ≤ l.length := by
  unfold Shp.turnV
  split
  · rw [Shp.fit_length, Shp.turned_length]; omega
  · simp
theorem gx_own {g : Nat} {l : List Int} {w w1 w2 : World} {o : Obj} {u : Value} {base n sz : Nat} {T : TypeId} {xs : List Value} (h : Gx g l w w1) (ho : w1.ownsRow base T sz u n xs) (hg : (w1.alloc o).grownBy w2 u.ownBlock) (hb : w.heap.size ≤ base) (hgb : g < base) : Gx g l w w2 := by
  cases hu : u.ownBlock with
  | none =>
    rw [hu] at hg
    exact h.trans (Gx.ext h.cur (((Ext.refl w1).alloc o).grown hg (fun k e => by cases e)))
  | some q =>
    rw [hu] at hg
    have := (ho.lt q hu).1
    exact h.app (r := q) hg (by omega) (by omega)
/-- What a call of l19Shapes that began at w keeps: its box, the list of panes. -/
structure LX (w wr : World) (g : Nat) (l : List Int) (N E : List P2) (A B : Option Addr) (c c' : Nat) (A2 : Option Addr) (m c2 : Nat) (PL : List Nat) : Prop where
  gx : Gx g l w wr
  box : Bx [(w.heap.size, [.slice A N.length c, .slice B E.length c'])] wr
  pl : wr.ownsRow (w.heap.size + 1) 3 1 (.slice A2 m c2) m (encI (castZ PL))
section
variable {w wr w' : World} {g : Nat} {l : List Int} {N E : List P2} {A B A2 : Option Addr} {c c' m c2 : Nat} {PL : List Nat}
theorem LX.step (h : LX w wr g l N E A B c c' A2 m c2 PL) (hG : Gx g l wr w') (hg : g < w.heap.size) : LX w w' g l N E A B c c' A2 m c2 PL :=
  ⟨h.gx.trans hG, hG.bx (by simp [Ap]; omega) h.box, h.pl.kept hG.gr (.inr fun e => by have := (h.pl.lt g e).1; omega)⟩
theorem LX.ext (h : LX w wr g l N E A B c c' A2 m c2 PL) (hE : Ext wr w') (hg : g < w.heap.size) : LX w w' g l N E A B c c' A2 m c2 PL := h.step (Gx.ext h.gx.cur hE) hg
theorem LX.app {o : Obj} {u : Value} {n : Nat} {xs : List Value} (h : LX w wr g l N E A B c c' A2 m c2 PL) (ho : wr.ownsRow (w.heap.size + 1) 24 1 u n xs) (hgr : (wr.alloc o).grownBy w' u.ownBlock) (hg : g < w.heap.size) : LX w w' g l N E A B c c' A2 m c2 PL := by
  have hx := h.ext ((Ext.refl wr).alloc o) hg
  refine ⟨gx_own h.gx ho hgr (by omega) (by omega), ?_, hx.pl.kept hgr ?_⟩
  · cases hu : u.ownBlock with
    | none => rw [hu] at hgr; exact Bx.grownA (row := none) hgr (by simp [Ap]) hx.box
    | some q =>
      rw [hu] at hgr
      have := (ho.lt q hu).1
      exact Bx.grownA (row := some q) hgr (by simp [Ap]; omega) hx.box
  · cases hu : (Value.slice A2 m c2).ownBlock with
    | none => exact .inl rfl
    | some x => exact .inr fun e => own_apart2 h.pl ho (by decide) x hu e.symm
theorem LX.tr (h : LX w wr g l N E A B c c' A2 m c2 PL) : Tr [(w.heap.size, [.slice A N.length c, .slice B E.length c'])] wr wr := ⟨h.box, Ext.refl _⟩
end
set_option maxRecDepth 20000 in
set_option maxHeartbeats 16000000 in
theorem l19Shapes_any (g : Nat) (l : List Int) (N E : List P2) (A B : Option Addr) (c c' base : Nat) (w : World) (hl : l.length ≤ 1048576) (hc : Cur w g l) (hgb : g < base) (hwb : WB w base N E A B c c') :
    Calls Tryz.prog 44 #[.pointer (some ⟨g, 0, none⟩), .agg #[.slice A N.length c, .slice B E.length c']] w fun e w' => ∃ (L : List (List P2)) (A2 : Option Addr) (c2 : Nat) (hs : List Value), e = .returned (.slice A2 L.length c2) ∧ L.length ≤ 9 ∧ (∀ S ∈ L, S.length ≤ 40) ∧ SNN w' (w.heap.size + 1) (.slice A2 L.length c2) L.length L hs ∧ Gx g l w w' := by
  obtain ⟨i0, hi, hz0, hz1, hz2⟩ := info_parts nodess_info
  have HC := hide hc
  have HWB := hide hwb
  have hgl := hc.lt
  clear hc hwb
  
  go_enter Tryz.func44, Tryz.ntmps44
  go_wp2_with fail
  obtain ⟨w0, hw⟩ : ∃ w1, w1 = (w.alloc (Obj.cells #[Value.slice A N.length c, Value.slice B E.length c'] 27)).alloc (Obj.cells #[] 24) := ⟨_, rfl⟩; rw [← hw]; have kT : Tr [(w.heap.size, [.slice A N.length c, .slice B E.length c'])] w w0 := (by rw [hw]; exact ⟨by (first | (simp [Bx, CellsAt, go_sem, *]; done) | (simp [Bx, CellsAt, go_sem, *]; omega)), by (repeat (first | exact kE | exact Ext.refl _ | apply Ext.alloc | apply Ext.drewN | apply Ext.drew | apply Ext.set0 | apply Ext.set1 | apply Ext.set2 | apply Ext.set3 | (refine Ext.setk ?_ (by omega) _) | (apply Ext.snoc; assumption)))⟩); have HT := hide kT; clear kT; have kT := HT.out; simp only [Tr, Bx, CellsAt, Nat.reduceAdd, Nat.zero_add, and_true] at kT; obtain ⟨⟨kz0, kf0, kc0_0, kc0_1⟩, kE⟩ := kT
  have HO0 := hide (show SNN w0 (w.heap.size + 1) (.slice (some ⟨w.heap.size + 1, 0, none⟩) 0 0) 0 [] [] from by
    rw [hw]
    have h := World.ownsRow_lit (base := w.heap.size + 1) (e := 24) (size := 1) (w.alloc (Obj.cells #[Value.slice A N.length c, Value.slice B E.length c'] 27)) #[] 0 (by simp) (Nat.zero_le _) rfl
    exact SNN.lit (by simpa using h))
  have hng : ¬ w.heap.size = g := by omega
  have HG0 := hide (Gx.ext HC.out kE)
  clear hw
  refine (sPanesOf_any N E A B c c' w0 (HWB.out.wr.ext kE)).mono ?_
  rintro e w2 ⟨A2, c2, rfl, hpo, hb2⟩
  have HO2 := hide (HO0.out.ext hb2)
  have HG2 := hide (HG0.out.trans (Gx.ext HG0.out.cur hb2))
  have HPO := hide hpo
  have hs2 := hb2.size
  have hs0 := kz0
  have HT' := hide (show Tr [(w.heap.size, [.slice A N.length c, .slice B E.length c'])] w2 w2 from ⟨(HT.out.ext hb2).1, Ext.refl _⟩)
  have hpl := pansN_len N E
  obtain ⟨PL, hPL⟩ : ∃ PL, pansN N E = PL := ⟨_, rfl⟩
  rw [hPL] at HPO hpl ⊢
  obtain ⟨m, hm⟩ : ∃ m, PL.length = m := ⟨_, rfl⟩
  have HM := hide hm
  rw [hm] at HPO hpl ⊢
  clear hpo hb2 HO0 HG0 hPL hm
  clear kz0 kf0 kc0_0 kc0_1 kE
  clear HT; have HT := HT'; clear HT'
  have kT := HT.out; simp only [Tr, Bx, CellsAt, Nat.reduceAdd, Nat.zero_add, and_true] at kT; obtain ⟨⟨kz0, kf0, kc0_0, kc0_1⟩, kE⟩ := kT
  go_wp2_with fail
  refine (l01Below_any g 5 l _ hl (by omega) (by omega) HG2.out.cur).mono ?_; rintro e w3 ⟨n, rfl, hn0, hn1, hc3, hg3⟩
  obtain ⟨n, rfl⟩ := Int.eq_ofNat_of_zero_le hn0
  have HG3 := hide (HG2.out.trans (Gx.mk hg3 hc3))
  have HO3 := hide (HO2.out.gx (Gx.mk hg3 hc3) (by omega))
  have hw3 : w.heap.size ≤ w3.heap.size := HG3.out.size
  have hP2 : w2.ownsRow (w.heap.size + 1) 3 1 (.slice A2 m c2) m (encI (castZ PL)) := own_mono HPO.out (by omega)
  have HX3 := hide (show LX w w3 g l N E A B c c' A2 m c2 PL from (LX.mk HG2.out HT.out.1 hP2).step (Gx.mk hg3 hc3) hgl)
  clear hP2 hc3 hg3 HG2 HO2 HPO hs2 HG3
  clear kz0 kf0 kc0_0 kc0_1 kE
  clear HT
  have HT := hide HX3.out.tr
  have kT := HT.out; simp only [Tr, Bx, CellsAt, Nat.reduceAdd, Nat.zero_add, and_true] at kT; obtain ⟨⟨kz0, kf0, kc0_0, kc0_1⟩, kE⟩ := kT
  go_wp2_with fail
  clear kz0 kf0 kc0_0 kc0_1 kE
  go_loopw [5, 8, 9, 10] (fun vo i _ _ wr => ∃ (k : Nat) (L : List (List P2)) (hs : List Value), k ≤ n ∧ i = .int .i64 k ∧ Hid (∀ S ∈ L, S.length ≤ 40) ∧ Hid (SNN wr (w.heap.size + 1) vo k L hs) ∧ Hid (LX w wr g l N E A B c c' A2 m c2 PL)) (fun _ i _ _ _ => n - (intOf i).toNat)
  case atStart => exact ⟨0, [], [], Nat.zero_le _, rfl, hide (by simp), HO3, HX3⟩
  case round =>
    clear HO3 HX3 HT
    obtain ⟨k, L, hs, hk, rfl, HL, HO, HX⟩ := hrel
    have hszb := HX.out.box.1.1
    have hsz : w.heap.size + 1 ≤ wr.heap.size := hszb
    have HT := hide HX.out.tr
    by_cases hlt : k < n
    · have hlz : (k : Int) < (n : Int) := by omega
      have kT := HT.out; simp only [Tr, Bx, CellsAt, Nat.reduceAdd, Nat.zero_add, and_true] at kT; obtain ⟨⟨kz0, kf0, kc0_0, kc0_1⟩, kE⟩ := kT
      go_wp2_with fail
      refine (l18Shape_any g l _ hl HX.out.gx.cur).mono ?_
      rintro e w4 ⟨S, A4, c4, rfl, hds, ho4, hgx⟩
      have hS40 := hds.len
      have HS4 := hide (own_mono ho4 hsz)
      have HX4 := hide (HX.out.step hgx hgl)
      have HO4 := hide (HO.out.gx hgx (by omega))
      clear hds ho4 hgx HO HX
      clear kz0 kf0 kc0_0 kc0_1 kE
      clear HT
      have HT := hide HX4.out.tr
      have kT := HT.out; simp only [Tr, Bx, CellsAt, Nat.reduceAdd, Nat.zero_add, and_true] at kT; obtain ⟨⟨kz0, kf0, kc0_0, kc0_1⟩, kE⟩ := kT
      by_cases hm0 : m = 0
      · have hmz : ¬ (0 : Int) < (m : Int) := by omega
        clear hm0
        go_wp2_with fail
        refine (l01Below_any g 4 l _ hl (by omega) (by omega) HX4.out.gx.cur).mono ?_; rintro e w6 ⟨y6, rfl, hy0, hy1, hc6, hg6⟩
        obtain ⟨y6, rfl⟩ := Int.eq_ofNat_of_zero_le hy0
        have HX6 := hide (HX4.out.step (Gx.mk hg6 hc6) hgl)
        have HO6 := hide (HO4.out.gx (Gx.mk hg6 hc6) (by omega))
        have hz6 : w.heap.size + 1 ≤ w6.heap.size := HX6.out.box.1.1
        have HS6 := hide (show w6.ownsRow (w.heap.size + 1) 84 2 (.slice A4 S.length c4) S.length (enc2 S) from HS4.out.kept hg6 (.inr fun e => by have := (HS4.out.lt g e).1; omega))
        clear hc6 hg6
        clear kz0 kf0 kc0_0 kc0_1 kE
        go_wp2_with fail
        go_loopw [9, 10] (fun vs i wq => ∃ (j : Nat) (Z : List P2) (AZ : Option Addr) (cz : Nat), j ≤ 3 ∧ i = .int .i64 j ∧ vs = .slice AZ Z.length cz ∧ Hid (Z.length ≤ 40) ∧ Hid (wq.ownsRow (w.heap.size + 1) 84 2 (.slice AZ Z.length cz) Z.length (enc2 Z)) ∧ Hid (Ext w6 wq)) (fun _ i _ => (intOf i).toNat)
        case atStart => exact ⟨y6, S, A4, c4, by omega, rfl, rfl, hide (by omega), HS6, hide (Ext.refl _)⟩
        case round =>
          clear HS6
          obtain ⟨j, Z, AZ, cz, hj, rfl, rfl, HZ, HS, HE⟩ := hrel
          have hZ40 := HZ.out
          by_cases hj0 : 0 < j
          · have hjz : (0 : Int) < (j : Int) := by omega
            go_wp2_with fail
            refine (Shp.sTurnShape_any Z AZ cz _ (by omega) (Rds.of_own HS.out)).mono ?_; rintro e w7 ⟨A7, c7, rfl, ho7, hb7⟩
            have HE7 := hide (HE.out.trans hb7)
            have HS7 := hide (own_mono ho7 (show w.heap.size + 1 ≤ wr.heap.size by have := HE.out.size; omega))
            have HZ7 := hide (Nat.le_trans (turnV_le Z) hZ40)
            clear ho7 hb7
            go_wp2_with fail
            go_roundw
            case rel => exact ⟨j - 1, Shp.turnV Z, A7, c7, by omega, by go_num, rfl, HZ7, HS7, HE7⟩
            case measure => simp [intOf]; omega
          · obtain rfl : j = 0 := by omega
            have HO7 := hide (HO6.out.ext HE.out)
            have HX7 := hide (HX6.out.ext HE.out hgl)
            have hwr7 : w.heap.size + 1 ≤ wr.heap.size := HX7.out.box.1.1
            go_wp2_with (at_builtin; refine wpList_append_own_at _ rfl (.tmp 48) (.tmp 50) 28 rfl (w.heap.size + 1) 24 i0 (.slice none 0 0) 1 24 Tryz.underlying28 hi hz0 hz1 hz2 rfl (by decide) u5 k hs rfl (own_ext HO7.out.1 ((Ext.refl _).alloc _)) ⟨wr.heap.size, 0, none⟩ 1 1 [.slice AZ Z.length cz] rfl rfl (news_new wr #[.slice AZ Z.length cz] 24) (by intro u hu; simp at hu; subst hu; rfl) (by unfold maxLen; omega) (by omega) (by first | (simp; done) | (simp; omega)) ?_; intro v9 w9 hown9 hgrow9 hnil9 hloc9)
            have HX9 := hide (HX7.out.app HO7.out.1 hgrow9 hgl)
            have HO9 := hide (HO7.out.app (S := Z) (by have h := HS.out; exact h) hown9 hgrow9)
            have HL9 := hide (show ∀ Q ∈ L ++ [Z], Q.length ≤ 40 from fun Q hQ => by
              rcases List.mem_append.1 hQ with q | q
              · exact HL.out Q q
              · rw [List.mem_singleton] at q; rw [q]; exact HZ.out)
            clear hown9 hgrow9 hnil9 hloc9
            go_roundw
            case rel => exact ⟨k + 1, L ++ [Z], hs ++ [.slice AZ Z.length cz], by omega, by go_num, HL9, HO9, HX9⟩
            case measure => simp [intOf]; omega
      · have hmz : (0 : Int) < (m : Int) := by omega
        
        go_wp2_with fail
        refine (l01Below_any g 4 l _ hl (by omega) (by omega) HX4.out.gx.cur).mono ?_; rintro e w5 ⟨y, rfl, hy0, hy1, hc5, hg5⟩
        have HX5 := hide (HX4.out.step (Gx.mk hg5 hc5) hgl)
        have HO5 := hide (HO4.out.gx (Gx.mk hg5 hc5) (by omega))
        have HS5 := hide (show w5.ownsRow (w.heap.size + 1) 84 2 (.slice A4 S.length c4) S.length (enc2 S) from HS4.out.kept hg5 (.inr fun e => by have := (HS4.out.lt g e).1; omega))
        clear hc5 hg5 HX4 HO4 HS4
        clear kz0 kf0 kc0_0 kc0_1 kE
        clear HT
        have HT := hide HX5.out.tr
        have kT := HT.out; simp only [Tr, Bx, CellsAt, Nat.reduceAdd, Nat.zero_add, and_true] at kT; obtain ⟨⟨kz0, kf0, kc0_0, kc0_1⟩, kE⟩ := kT
        by_cases hy : 0 < y
        · have HCR := hide HX5.out.gx.cur
          have hz5 : w.heap.size + 1 ≤ w5.heap.size := HX5.out.box.1.1
          have hmL : PL.length = m := HM.out
          obtain ⟨bL, oL, rfl, hbL, _⟩ := (Rds.of_own HX5.out.pl).2 (by omega)
          have HLC := hide (show ∀ W, Gx g l w5 W → ∀ k, k < m → W.cell? ⟨bL, oL + k, none⟩ = some (.int .i64 ((PL.getD k 0 : Nat) : Int)) from fun W hG k hk => by
            have hr := Rds.of_own (HX5.out.step hG hgl).pl
            obtain ⟨b', o', e, _, hcc⟩ := hr.2 (by omega)
            injection e with e
            injection e with e1 e2
            subst e1 e2
            have hkl : k < PL.length := by omega
            have := hcc k _ (encI_castZ_get hkl)
            rw [this]
            simp [hkl])
          have HWB2 := hide (show ∀ W, Gx g l w5 W → WR W N E A B c c' from fun W hG => ((HWB.out.gx (HX5.out.gx.trans hG) hgb)).wr)
          go_upto_region 9 with fail
          apply wp_region_GRL (K := Gx g l) 10 65 (by kernel_rfl) (Gx.drew HCR.out) (fun h1 h2 => h1.trans h2) (by kernel_rfl) (by kernel_rfl) (by kernel_rfl) (by kernel_rfl) (by kernel_rfl) rfl [fun v _ => v = _, fun v _ => v = _, fun v _ => v = _, fun v _ => v = _, fun v _ => v = .int .i64 (m : Int), fun v _ => ∃ x : Nat, v = .int .i64 (x : Int) ∧ x < m, fun v _ => ∃ k : Nat, k < m ∧ v = .pointer (some ⟨bL, oL + k, none⟩), fun v _ => ∃ y : Int, v = .int .i64 y, fun v w' => ∃ (Z : List P2) (AZ : Option Addr) (cz : Nat), Z.length ≤ 40 ∧ v = .slice AZ Z.length cz ∧ w'.ownsRow (w.heap.size + 1) 84 2 (.slice AZ Z.length cz) Z.length (enc2 Z), fun v w' => ∃ (Z : List P2) (AZ : Option Addr) (cz : Nat), Z.length ≤ 40 ∧ v = .slice AZ Z.length cz ∧ w'.ownsRow (w.heap.size + 1) 84 2 (.slice AZ Z.length cz) Z.length (enc2 Z)] rfl ⟨stabk_eq _ _, stabk_eq _ _, stabk_eq _ _, stabk_eq _ _, stabk_eq _ _, stabk_any _ _, stabk_any _ _, stabk_any _ _, (fun v W W' ⟨Z, AZ, cz, h0, h1, h2⟩ hG => ⟨Z, AZ, cz, h0, h1, h2.kept hG.gr (.inr fun e => by have := (h2.lt g e).1; omega)⟩), (fun v W W' ⟨Z, AZ, cz, h0, h1, h2⟩ hG => ⟨Z, AZ, cz, h0, h1, h2.kept hG.gr (.inr fun e => by have := (h2.lt g e).1; omega)⟩), trivial⟩ ?R9hop ?R9fin
          case R9hop =>
            intro a w' hE hA
            have c0 := hE.cell kz0 (by omega) kc0_0
            have c1 := hE.cell kz0 (by omega) kc0_1
            have f0 := hE.frz kz0 (by omega) kf0
            have z0 : w.heap.size < w'.heap.size := Nat.lt_of_lt_of_le kz0 hE.size
            have hcu := hide hE.cur
            have hcl := HLC.out _ hE
            have HE := hide hE
            refine ⟨⟨⟨⟨⟨⟨⟨⟨⟨⟨trivial, ?_⟩, ?_⟩, ?_⟩, ?_⟩, ?_⟩, ?_⟩, ?_⟩, ?_⟩, ?_⟩, ?_⟩
            · intro hp
              have s3 := hA 3 (by rfl)
              simp [sl] at s3
              clear hp
              refine wpOp_of_list rfl rfl ?_
              go_wp2_with (fail)
              exact ⟨_, rfl, rfl, Gx.refl hcu.out⟩
            · intro hp
              have s6 := hA 6 (by rfl)
              simp [sl] at s6
              clear hp
              refine wpOp_of_list rfl rfl ?_
              go_wp2_with (fail)
              exact ⟨_, rfl, rfl, Gx.refl hcu.out⟩
            · intro hp
              have s0 := hA 0 (by rfl)
              simp [sl] at s0
              clear hp
              refine wpOp_of_list rfl rfl ?_
              go_wp2_with (fail)
              exact ⟨_, rfl, rfl, Gx.refl hcu.out⟩
            · intro hp
              have s6 := hA 6 (by rfl)
              simp [sl] at s6
              clear hp
              refine wpOp_of_list rfl rfl ?_
              go_wp2_with (fail)
              exact ⟨_, rfl, rfl, Gx.refl hcu.out⟩
            · intro hp
              have s34 := hp 3 (by rfl)
              change a.tmps.getD 34 undef = _ at s34
              simp at s34
              clear hp
              refine wpOp_of_list rfl rfl ?_
              go_wp2_with (fail)
              exact ⟨_, rfl, by first | rfl | (congr 1; omega) | (congr 1; simp; omega), Gx.refl hcu.out⟩
            · intro hp
              have s33 := hp 2 (by rfl)
              change a.tmps.getD 33 undef = _ at s33
              simp at s33
              have s35 := hp 4 (by rfl)
              obtain s35 := s35
              change a.tmps.getD 35 undef = _ at s35
              simp at s35
              clear hp
              refine wpOp_of_list rfl rfl ?_
              go_wp2_with (go_at_call 58; refine (l01Below_any g m l _ hl (by omega) (by omega) hcu.out).mono ?_; rintro e wq ⟨x, rfl, hx0, hx1, hcq, hgq⟩; obtain ⟨x, rfl⟩ := Int.eq_ofNat_of_zero_le hx0)
              exact ⟨_, rfl, ⟨x, rfl, by omega⟩, ⟨hgq, hcq⟩⟩
            · intro hp
              have s32 := hp 1 (by rfl)
              change a.tmps.getD 32 undef = _ at s32
              simp at s32
              have s36 := hp 5 (by rfl)
              obtain ⟨x, s36, hx⟩ := s36
              change a.tmps.getD 36 undef = _ at s36
              simp at s36
              clear hp
              refine wpOp_of_list rfl rfl ?_
              go_wp2_with (fail)
              exact ⟨_, rfl, ⟨x, hx, by first | rfl | simp⟩, Gx.refl hcu.out⟩
            · intro hp
              have s37 := hp 6 (by rfl)
              obtain ⟨k9, hk9, s37⟩ := s37
              change a.tmps.getD 37 undef = _ at s37
              simp at s37
              clear hp
              refine wpOp_of_list rfl rfl ?_
              go_wp2_with (fail)
              exact ⟨_, rfl, ⟨_, rfl⟩, Gx.refl hcu.out⟩
            · intro hp
              have s31 := hp 0 (by rfl)
              change a.tmps.getD 31 undef = _ at s31
              simp at s31
              have s38 := hp 7 (by rfl)
              obtain ⟨y, s38⟩ := s38
              change a.tmps.getD 38 undef = _ at s38
              simp at s38
              clear hp
              refine wpOp_of_list rfl rfl ?_
              go_wp2_with (go_at_call 17; refine (sShapeOf_any N E A B c c' y _ (HWB2.out _ HE.out)).mono ?_; rintro e wq ⟨AZ, cz, rfl, hoz, hbz⟩)
              exact ⟨_, rfl, ⟨_, AZ, cz, shapeV_len, rfl, own_mono hoz (by have := HE.out.size; omega)⟩, Gx.ext hcu.out hbz⟩
            · intro hp
              have s39 := hp 8 (by rfl)
              obtain ⟨Z, AZ, cz, hZ, s39, hzo⟩ := s39
              change a.tmps.getD 39 undef = _ at s39
              simp at s39
              clear hp
              refine wpOp_of_list rfl rfl ?_
              go_wp2_with (fail)
              exact ⟨_, rfl, ⟨Z, AZ, cz, hZ, rfl, hzo⟩, Gx.refl hcu.out⟩
          case R9fin =>
            intro X w' hE hp
            obtain ⟨⟨⟨⟨⟨⟨⟨⟨⟨⟨-, h0⟩, h1⟩, h2⟩, h3⟩, h4⟩, h5⟩, h6⟩, h7⟩, h8⟩, h9⟩ := hp
            change X 0 = _ at h0
            change X 1 = _ at h1
            change X 2 = _ at h2
            change X 3 = _ at h3
            obtain h4 := h4
            change X 4 = _ at h4
            obtain ⟨x, h5, hx⟩ := h5
            change X 5 = _ at h5
            obtain ⟨k9, hk9, h6⟩ := h6
            change X 6 = _ at h6
            obtain ⟨y, h7⟩ := h7
            change X 7 = _ at h7
            obtain ⟨Z, AZ, cz, hZ, h8, hzo⟩ := h8
            change X 8 = _ at h8
            obtain ⟨Z, AZ, cz, hZ, h9, hzo⟩ := h9
            change X 9 = _ at h9
            simp only [List.drop_succ_cons, List.drop_nil]
            refine wpList_nil ?_
            go_simp
            have HXR := hide (HX5.out.step hE hgl)
            have HOR := hide (HO5.out.gx hE (by omega))
            have HSZ := hide hzo
            have hZ40' := hZ
            clear hE hzo hZ HX5 HO5 HS5 HLC HWB2 HCR h1 h2 h3 h4 h5
            clear kz0 kf0 kc0_0 kc0_1 kE
            clear HT
            have HT := hide HXR.out.tr
            have kT := HT.out; simp only [Tr, Bx, CellsAt, Nat.reduceAdd, Nat.zero_add, and_true] at kT; obtain ⟨⟨kz0, kf0, kc0_0, kc0_1⟩, kE⟩ := kT
            go_wp2_with fail
            refine (l01Below_any g 4 l _ hl (by omega) (by omega) HXR.out.gx.cur).mono ?_; rintro e w6 ⟨y6, rfl, hy0, hy1, hc6, hg6⟩
            obtain ⟨y6, rfl⟩ := Int.eq_ofNat_of_zero_le hy0
            have HX6 := hide (HXR.out.step (Gx.mk hg6 hc6) hgl)
            have HO6 := hide (HOR.out.gx (Gx.mk hg6 hc6) (by omega))
            have hz6 : w.heap.size + 1 ≤ w6.heap.size := HX6.out.box.1.1
            have HS6 := hide (show w6.ownsRow (w.heap.size + 1) 84 2 (.slice AZ Z.length cz) Z.length (enc2 Z) from HSZ.out.kept hg6 (.inr fun e => by have := (HSZ.out.lt g e).1; omega))
            clear hc6 hg6
            clear kz0 kf0 kc0_0 kc0_1 kE
            go_wp2_with fail
            go_loopw [9, 10] (fun vs i wq => ∃ (j : Nat) (Z : List P2) (AZ : Option Addr) (cz : Nat), j ≤ 3 ∧ i = .int .i64 j ∧ vs = .slice AZ Z.length cz ∧ Hid (Z.length ≤ 40) ∧ Hid (wq.ownsRow (w.heap.size + 1) 84 2 (.slice AZ Z.length cz) Z.length (enc2 Z)) ∧ Hid (Ext w6 wq)) (fun _ i _ => (intOf i).toNat)
            case atStart => exact ⟨y6, Z, AZ, cz, by omega, rfl, rfl, hide (by omega), HS6, hide (Ext.refl _)⟩
            case round =>
              clear HS6
              obtain ⟨j, Z, AZ, cz, hj, rfl, rfl, HZ, HS, HE⟩ := hrel
              have hZ40 := HZ.out
              by_cases hj0 : 0 < j
              · have hjz : (0 : Int) < (j : Int) := by omega
                go_wp2_with fail
                refine (Shp.sTurnShape_any Z AZ cz _ (by omega) (Rds.of_own HS.out)).mono ?_; rintro e w7 ⟨A7, c7, rfl, ho7, hb7⟩
                have HE7 := hide (HE.out.trans hb7)
                have HS7 := hide (own_mono ho7 (show w.heap.size + 1 ≤ wr.heap.size by have := HE.out.size; omega))
                have HZ7 := hide (Nat.le_trans (turnV_le Z) hZ40)
                clear ho7 hb7
                go_wp2_with fail
                go_roundw
                case rel => exact ⟨j - 1, Shp.turnV Z, A7, c7, by omega, by go_num, rfl, HZ7, HS7, HE7⟩
                case measure => simp [intOf]; omega
              · obtain rfl : j = 0 := by omega
                have HO7 := hide (HO6.out.ext HE.out)
                have HX7 := hide (HX6.out.ext HE.out hgl)
                have hwr7 : w.heap.size + 1 ≤ wr.heap.size := HX7.out.box.1.1
                go_wp2_with (at_builtin; refine wpList_append_own_at _ rfl (.tmp 48) (.tmp 50) 28 rfl (w.heap.size + 1) 24 i0 (.slice none 0 0) 1 24 Tryz.underlying28 hi hz0 hz1 hz2 rfl (by decide) u5 k hs rfl (own_ext HO7.out.1 ((Ext.refl _).alloc _)) ⟨wr.heap.size, 0, none⟩ 1 1 [.slice AZ Z.length cz] rfl rfl (news_new wr #[.slice AZ Z.length cz] 24) (by intro u hu; simp at hu; subst hu; rfl) (by unfold maxLen; omega) (by omega) (by first | (simp; done) | (simp; omega)) ?_; intro v9 w9 hown9 hgrow9 hnil9 hloc9)
                have HX9 := hide (HX7.out.app HO7.out.1 hgrow9 hgl)
                have HO9 := hide (HO7.out.app (S := Z) (by have h := HS.out; exact h) hown9 hgrow9)
                have HL9 := hide (show ∀ Q ∈ L ++ [Z], Q.length ≤ 40 from fun Q hQ => by
                  rcases List.mem_append.1 hQ with q | q
                  · exact HL.out Q q
                  · rw [List.mem_singleton] at q; rw [q]; exact HZ.out)
                clear hown9 hgrow9 hnil9 hloc9
                go_roundw
                case rel => exact ⟨k + 1, L ++ [Z], hs ++ [.slice AZ Z.length cz], by omega, by go_num, HL9, HO9, HX9⟩
                case measure => simp [intOf]; omega
        · have hyn : ¬ (0 : Int) < y := by omega
          clear hy
          
          go_wp2_with fail
          refine (l01Below_any g 4 l _ hl (by omega) (by omega) HX5.out.gx.cur).mono ?_; rintro e w6 ⟨y6, rfl, hy0, hy1, hc6, hg6⟩
          obtain ⟨y6, rfl⟩ := Int.eq_ofNat_of_zero_le hy0
          have HX6 := hide (HX5.out.step (Gx.mk hg6 hc6) hgl)
          have HO6 := hide (HO5.out.gx (Gx.mk hg6 hc6) (by omega))
          have hz6 : w.heap.size + 1 ≤ w6.heap.size := HX6.out.box.1.1
          have HS6 := hide (show w6.ownsRow (w.heap.size + 1) 84 2 (.slice A4 S.length c4) S.length (enc2 S) from HS5.out.kept hg6 (.inr fun e => by have := (HS5.out.lt g e).1; omega))
          clear hc6 hg6
          clear kz0 kf0 kc0_0 kc0_1 kE
          go_wp2_with fail
          go_loopw [9, 10] (fun vs i wq => ∃ (j : Nat) (Z : List P2) (AZ : Option Addr) (cz : Nat), j ≤ 3 ∧ i = .int .i64 j ∧ vs = .slice AZ Z.length cz ∧ Hid (Z.length ≤ 40) ∧ Hid (wq.ownsRow (w.heap.size + 1) 84 2 (.slice AZ Z.length cz) Z.length (enc2 Z)) ∧ Hid (Ext w6 wq)) (fun _ i _ => (intOf i).toNat)
          case atStart => exact ⟨y6, S, A4, c4, by omega, rfl, rfl, hide (by omega), HS6, hide (Ext.refl _)⟩
          case round =>
            clear HS6
            obtain ⟨j, Z, AZ, cz, hj, rfl, rfl, HZ, HS, HE⟩ := hrel
            have hZ40 := HZ.out
            by_cases hj0 : 0 < j
            · have hjz : (0 : Int) < (j : Int) := by omega
              go_wp2_with fail
              refine (Shp.sTurnShape_any Z AZ cz _ (by omega) (Rds.of_own HS.out)).mono ?_; rintro e w7 ⟨A7, c7, rfl, ho7, hb7⟩
              have HE7 := hide (HE.out.trans hb7)
              have HS7 := hide (own_mono ho7 (show w.heap.size + 1 ≤ wr.heap.size by have := HE.out.size; omega))
              have HZ7 := hide (Nat.le_trans (turnV_le Z) hZ40)
              clear ho7 hb7
              go_wp2_with fail
              go_roundw
              case rel => exact ⟨j - 1, Shp.turnV Z, A7, c7, by omega, by go_num, rfl, HZ7, HS7, HE7⟩
              case measure => simp [intOf]; omega
            · obtain rfl : j = 0 := by omega
              have HO7 := hide (HO6.out.ext HE.out)
              have HX7 := hide (HX6.out.ext HE.out hgl)
              have hwr7 : w.heap.size + 1 ≤ wr.heap.size := HX7.out.box.1.1
              go_wp2_with (at_builtin; refine wpList_append_own_at _ rfl (.tmp 48) (.tmp 50) 28 rfl (w.heap.size + 1) 24 i0 (.slice none 0 0) 1 24 Tryz.underlying28 hi hz0 hz1 hz2 rfl (by decide) u5 k hs rfl (own_ext HO7.out.1 ((Ext.refl _).alloc _)) ⟨wr.heap.size, 0, none⟩ 1 1 [.slice AZ Z.length cz] rfl rfl (news_new wr #[.slice AZ Z.length cz] 24) (by intro u hu; simp at hu; subst hu; rfl) (by unfold maxLen; omega) (by omega) (by first | (simp; done) | (simp; omega)) ?_; intro v9 w9 hown9 hgrow9 hnil9 hloc9)
              have HX9 := hide (HX7.out.app HO7.out.1 hgrow9 hgl)
              have HO9 := hide (HO7.out.app (S := Z) (by have h := HS.out; exact h) hown9 hgrow9)
              have HL9 := hide (show ∀ Q ∈ L ++ [Z], Q.length ≤ 40 from fun Q hQ => by
                rcases List.mem_append.1 hQ with q | q
                · exact HL.out Q q
                · rw [List.mem_singleton] at q; rw [q]; exact HZ.out)
              clear hown9 hgrow9 hnil9 hloc9
              go_roundw
              case rel => exact ⟨k + 1, L ++ [Z], hs ++ [.slice AZ Z.length cz], by omega, by go_num, HL9, HO9, HX9⟩
              case measure => simp [intOf]; omega
    · obtain rfl : k = n := by omega
      have kT := HT.out; simp only [Tr, Bx, CellsAt, Nat.reduceAdd, Nat.zero_add, and_true] at kT; obtain ⟨⟨kz0, kf0, kc0_0, kc0_1⟩, kE⟩ := kT
      go_wp2_with fail
      refine (l01Once_any g 14 l _ hl (by omega) (by omega) HX.out.gx.cur).mono ?_; rintro e w6 ⟨bb, rfl, hc6, hg6⟩
      have HX6 := hide (HX.out.step (Gx.mk hg6 hc6) hgl)
      have HO6 := hide (HO.out.gx (Gx.mk hg6 hc6) (by omega))
      clear hc6 hg6 HX HO
      clear kz0 kf0 kc0_0 kc0_1 kE
      cases bb with
      | false =>
        have hLk := HO6.out.2.1
        obtain ⟨Ar, cr, rfl, _⟩ := own_slice HO6.out.1
        have HL9 := hide hLk
        clear hLk
        go_wp2_with fail
        go_ret
        have ho := HO6.out
        rw [← HL9.out] at ho ⊢
        exact ⟨L, Ar, cr, hs, rfl, by rw [HL9.out]; omega, HL.out, ho, HX6.out.gx⟩
      | true =>
        go_wp2_with fail
        go_loopw [5] (fun vo wq => ∃ (k2 : Nat) (L2 : List (List P2)) (hs2 : List Value), k2 ≤ 9 ∧ Hid (lenS vo = k2) ∧ Hid (∀ S ∈ L2, S.length ≤ 40) ∧ Hid (SNN wq (w.heap.size + 1) vo k2 L2 hs2) ∧ Hid (LX w wq g l N E A B c c' A2 m c2 PL)) (fun vo _ => 10 - lenS vo)
        case atStart => exact ⟨k, L, hs, by omega, hide (by obtain ⟨Ar, cr, rfl, _⟩ := own_slice HO6.out.1; rfl), HL, HO6, HX6⟩
        case round =>
          clear HL HO6 HX6
          obtain ⟨k2, L2, hs2, hk2, HLS, HL, HO, HX⟩ := hrel
          obtain ⟨Ar, cr, rfl, _⟩ := own_slice HO.out.1
          have hz7 : w.heap.size + 1 ≤ wr.heap.size := HX.out.box.1.1
          go_wp2_with fail
          refine (l01Below_any g 2 l _ hl (by omega) (by omega) HX.out.gx.cur).mono ?_; rintro e w7 ⟨y, rfl, hy0, hy1, hc7, hg7⟩
          have HX7 := hide (HX.out.step (Gx.mk hg7 hc7) hgl)
          have HO7 := hide (HO.out.gx (Gx.mk hg7 hc7) (by omega))
          have hz8 : w.heap.size + 1 ≤ w7.heap.size := HX7.out.box.1.1
          clear hc7 hg7 HX HO
          by_cases hlt2 : (k2 : Int) < 8 + y
          · have hk7 : k2 ≤ 8 := by omega
            have hlt3 : (k2 : Int) < 8 + y := hlt2
            go_wp2_with (at_builtin; have hE8 := (Ext.refl w7).alloc (Obj.cells #[] 84); have hrow8 : (w7.alloc (Obj.cells #[] 84)).ownsRow (w.heap.size + 1) 84 2 (.slice (some ⟨w7.heap.size, 0, none⟩) ([] : List P2).length 0) ([] : List P2).length (enc2 []) := World.ownsRow_lit (base := w.heap.size + 1) (e := 84) (size := 2) w7 #[] 0 hz8 (Nat.zero_le _) rfl; refine wpList_append_own_at _ rfl (.tmp 60) (.tmp 62) 28 rfl (w.heap.size + 1) 24 i0 (.slice none 0 0) 1 24 Tryz.underlying28 hi hz0 hz1 hz2 rfl (by decide) (.slice Ar k2 cr) k2 hs2 rfl (own_ext HO7.out.1 (hE8.alloc _)) ⟨w7.heap.size + 1, 0, none⟩ 1 1 [.slice (some ⟨w7.heap.size, 0, none⟩) 0 0] rfl rfl (by simpa using news_new (w7.alloc (Obj.cells #[] 84)) #[.slice (some ⟨w7.heap.size, 0, none⟩) 0 0] 24) (by intro u hu; simp at hu; subst hu; rfl) (by unfold maxLen; omega) (by first | omega | (simp; omega)) (by first | (simp; done) | (simp; omega)) ?_; intro v9 w9 hown9 hgrow9 hnil9 hloc9)
            have HX9 := hide ((HX7.out.ext hE8 hgl).app (HO7.out.ext hE8).1 hgrow9 hgl)
            have HO9 := hide ((HO7.out.ext hE8).app (S := []) (B := some ⟨w7.heap.size, 0, none⟩) (c := 0) hrow8 hown9 hgrow9)
            have HL9 := hide (show ∀ Q ∈ L2 ++ [[]], Q.length ≤ 40 from fun Q hQ => by
              rcases List.mem_append.1 hQ with q | q
              · exact HL.out Q q
              · rw [List.mem_singleton] at q; rw [q]; simp)
            obtain ⟨A9, c9, hv, _⟩ := own_slice HO9.out.1
            have HLS9 := hide (show lenS v9 = k2 + 1 from by rw [hv]; rfl)
            have HLS0 := HLS.out
            clear hown9 hgrow9 hnil9 hloc9 hE8 hrow8
            go_roundw
            case rel => exact ⟨k2 + 1, L2 ++ [[]], _, by omega, HLS9, HL9, HO9, HX9⟩
            case measure => have := HLS9.out; simp only [lenS] at *; omega
          · have hLk := HO7.out.2.1
            have HL9 := hide hLk
            clear hLk
            go_wp2_with fail
            go_ret
            have ho := HO7.out
            rw [← HL9.out] at ho ⊢
            exact ⟨L2, Ar, cr, hs2, rfl, by rw [HL9.out]; omega, HL.out, ho, HX7.out.gx⟩
end Go.Proofs.YtabgcpoaepafjaaGreat
namespace Go.Proofs.YtabgcpoaepafjaaGreat
open Go.RowKit
theorem Gx.set {g b o : Nat} {l : List Int} {w w' : World} {v : Value} (h : Gx g l w w') (hb : w.heap.size ≤ b) (hg : g < b) : Gx g l w (w'.setCell ⟨b, o, none⟩ v) := ⟨grown_new h.gr hb o v, h.cur.setk hg o v⟩
end Go.Proofs.YtabgcpoaepafjaaGreat
