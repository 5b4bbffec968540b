/- The walk of placesOf: the places of each shape, as rows of numbers; words for such rows. No condition but that the lists are not too long. -/
import Derived.Test.YtabgcpoaepafjaaGreatPlaces
import Derived.Test.YtabgcpoaepafjaaGreatSS
import Derived.Test.YtabgcpoaepafjaaGreatWinC
set_option linter.unusedSimpArgs false
set_option linter.unusedVariables false
namespace Go.Proofs.YtabgcpoaepafjaaGreat
open Go.RowKit

/-- The slice of address A reads as headers of the rows P. -/
def RNN (w : World) (A : Option Addr) (P : List (List Nat)) : Prop :=
  ∃ hs : List Value, Rds w 1 A P.length hs ∧ ∀ (i : Nat) (hi : i < P.length), ∃ (B : Option Addr) (c : Nat), hs[i]? = some (.slice B P[i].length c) ∧ P[i].length ≤ c ∧ c ≤ maxLen ∧ Rds w 1 B P[i].length (encI (castZ P[i]))
theorem RNN.ext {w w' : World} {A : Option Addr} {P : List (List Nat)} (h : RNN w A P) (hE : Ext w w') : RNN w' A P := by
  obtain ⟨hs, h1, h2⟩ := h
  refine ⟨hs, h1.ext hE, fun i hi => ?_⟩
  obtain ⟨B, c, e1, e2, e3, e4⟩ := h2 i hi
  exact ⟨B, c, e1, e2, e3, Rds.ext e4 hE⟩
theorem RNN.at_ {w : World} {A : Option Addr} {P : List (List Nat)} (h : RNN w A P) {k : Nat} (hk : k < P.length) : ∃ b off, A = some ⟨b, off, none⟩ ∧ b < w.heap.size ∧ ∃ (B : Option Addr) (c : Nat), w.cell? ⟨b, off + k, none⟩ = some (.slice B P[k].length c) ∧ P[k].length ≤ c ∧ c ≤ maxLen ∧ Rds w 1 B P[k].length (encI (castZ P[k])) := by
  obtain ⟨hs, h1, h2⟩ := h
  obtain ⟨b, off, e, hb, hc⟩ := h1.2 (by omega)
  obtain ⟨B, c, e1, e2, e3, e4⟩ := h2 k hk
  exact ⟨b, off, e, hb, B, c, hc _ _ e1, e2, e3, e4⟩
/-- Rows of numbers in blocks of their own under a row of headers that grows. -/
def SOO (w : World) (base : Nat) (v : Value) (k : Nat) (P : List (List Nat)) (hs : List Value) : Prop :=
  w.ownsRow base 31 1 v k hs ∧ ∀ i, i < k → ∃ (B : Option Addr) (c : Nat), hs[i]? = some (.slice B (P.getD i []).length c) ∧ w.ownsRow base 3 1 (.slice B (P.getD i []).length c) (P.getD i []).length (encI (castZ (P.getD i [])))
theorem SOO.ext {w w' : World} {base k : Nat} {v : Value} {P : List (List Nat)} {hs : List Value} (h : SOO w base v k P hs) (hE : Ext w w') : SOO w' base v k P hs :=
  ⟨own_ext h.1 hE, fun i hi => by obtain ⟨B, c, e1, e2⟩ := h.2 i hi; exact ⟨B, c, e1, own_ext e2 hE⟩⟩
theorem SOO.nil (w : World) (base : Nat) (P : List (List Nat)) : SOO w base (.slice none 0 0) 0 P [] := ⟨World.ownsRow_nil _ _ _ _, fun i hi => absurd hi (by omega)⟩
theorem own_none {w : World} {base n sz : Nat} {T : TypeId} {v : Value} {xs : List Value} (_ : w.ownsRow base T sz v n xs) (h : v.ownBlock = none ∨ True) : True := trivial
theorem SOO.app {w w' : World} {base k : Nat} {v v' : Value} {P : List (List Nat)} {hs : List Value} {B : Option Addr} {c : Nat} {o : Obj} (h : SOO w base v k P hs)
    (hr : w.ownsRow base 3 1 (.slice B (P.getD k []).length c) (P.getD k []).length (encI (castZ (P.getD k []))))
    (hown : w'.ownsRow base 31 1 v' (k + 1) (hs ++ [.slice B (P.getD k []).length c])) (hg : (w.alloc o).grownBy w' v.ownBlock) : SOO w' base v' (k + 1) P (hs ++ [.slice B (P.getD k []).length c]) := by
  have hl := h.1.1
  have keep : ∀ {n : Nat} {u : Value} {xs : List Value}, w.ownsRow base 3 1 u n xs → w'.ownsRow base 3 1 u n xs := fun {n u xs} q => by
    have q2 := own_ext q ((Ext.refl w).alloc o)
    refine q2.kept hg ?_
    cases hu : u.ownBlock with
    | none => exact .inl rfl
    | some x => exact .inr fun e => own_apart2 q h.1 (by decide) x hu e.symm
  refine ⟨hown, fun i hi => ?_⟩
  by_cases e : i = k
  · subst e
    exact ⟨B, c, by rw [List.getElem?_append_right (by omega)]; simp [hl], keep hr⟩
  · obtain ⟨B2, c2, e1, e2⟩ := h.2 i (by omega)
    exact ⟨B2, c2, by rw [List.getElem?_append_left (by omega)]; exact e1, keep e2⟩
theorem own_len {w : World} {base n c sz : Nat} {A : Option Addr} {T : TypeId} {xs : List Value} (h : w.ownsRow base T sz (.slice A n c) n xs) : n ≤ c ∧ c ≤ maxLen := by
  rcases h.2 with ⟨q, h0⟩ | ⟨_, cap, _, q, _, _, hn, hc, _⟩
  · injection q with _ _ q
    omega
  · injection q with _ _ q
    omega
theorem SOO.rnn {w : World} {base c : Nat} {A : Option Addr} {P : List (List Nat)} {hs : List Value} (h : SOO w base (.slice A P.length c) P.length P hs) : RNN w A P := by
  refine ⟨hs, Rds.of_own h.1, fun i hi => ?_⟩
  obtain ⟨B, c2, e1, e2⟩ := h.2 i hi
  have e : P.getD i [] = P[i] := by simp [hi]
  rw [e] at e1 e2
  have := own_len e2
  exact ⟨B, c2, e1, this.1, this.2, Rds.of_own e2⟩
theorem ints_info : (Tryz.prog.info? 31).map (fun i => (i.zero, i.size, i.bytes)) = some (some (.slice none 0 0), 1, 24) := by kernel_rfl
/-- Whether the places are asked for. -/
noncomputable def askB (N E : List P2) (L : List (List P2)) : Bool := wholeB N E && decide (L.length ≤ 8)
/-- The places of the shapes. -/
noncomputable def plN (N E : List P2) (L : List (List P2)) : List (List Nat) := L.map (placesN N E)
theorem plN_length (N E : List P2) (L : List (List P2)) : (plN N E L).length = L.length := by simp [plN]
theorem plN_len (N E : List P2) (L : List (List P2)) : ∀ r ∈ plN N E L, r.length ≤ 40 := by
  intro r hr
  obtain ⟨S, _, rfl⟩ := List.mem_map.1 hr
  exact placesN_len N E S
theorem plN_lt (N E : List P2) (L : List (List P2)) : ∀ r ∈ plN N E L, ∀ p ∈ r, p < 40 := by
  intro r hr p hp
  obtain ⟨S, _, rfl⟩ := List.mem_map.1 hr
  have h := (List.mem_filter.1 hp).1
  have h2 := List.mem_range.1 (List.mem_filter.1 h).1
  have := fcs_len (N := N) (E := E)
  omega
theorem plN_at {N E : List P2} {L : List (List P2)} {k : Nat} (hk : k < L.length) : (plN N E L).getD k [] = placesN N E L[k] := by simp [plN, hk]
set_option maxRecDepth 20000 in
set_option maxHeartbeats 8000000 in
theorem placesOf_no (N E : List P2) (L : List (List P2)) (A B C : Option Addr) (c c' c3 : Nat) (w : World) (hw : WR w N E A B c c') (hl : L.length ≤ 1048576) (ha : askB N E L = false) :
    Calls Tryz.prog 45 #[.agg #[.slice A N.length c, .slice B E.length c'], .slice C L.length c3] w fun e w' => e = .returned (.tuple #[.slice none 0 0, .bool false]) ∧ Ext w w' := by
  have HIW := hide (fun (W : World) (hE : Ext w W) => IsWhole_any N E A B c c' W (hw.ext hE))
  clear hw
  
  go_enter Tryz.func45, Tryz.ntmps45
  go_wp2_with fail
  obtain ⟨w0, hw⟩ : ∃ w1, w1 = w.alloc (Obj.cells #[Value.slice A N.length c, Value.slice B E.length c'] 27) := ⟨_, rfl⟩; rw [← hw]; have kT : Tr [(w.heap.size, [.slice A N.length c, .slice B E.length c'])] w w0 := (by rw [hw]; exact ⟨by (first | (simp [Bx, CellsAt, go_sem, *]; done) | (simp [Bx, CellsAt, go_sem, *]; omega)), by (repeat (first | exact kE | exact Ext.refl _ | apply Ext.alloc | apply Ext.drewN | apply Ext.drew | apply Ext.set0 | apply Ext.set1 | apply Ext.set2 | apply Ext.set3 | (refine Ext.setk ?_ (by omega) _) | (apply Ext.snoc; assumption)))⟩); have HT := hide kT; clear hw kT; have kT := HT.out; simp only [Tr, Bx, CellsAt, Nat.reduceAdd, Nat.zero_add, and_true] at kT; obtain ⟨⟨kz0, kf0, kc0_0, kc0_1⟩, kE⟩ := kT
  refine (HIW.out _ kE).mono ?_
  rintro e w3 ⟨rfl, hb⟩
  have HE := hide (kE.trans hb)
  clear hb
  unfold askB at ha
  cases hwh : wholeB N E with
  | false =>
    clear ha
    go_wp2_with fail
    refine bodyPost_ret (v := .tuple #[.slice none 0 0, .bool false]) (by simp only [results, Tryz.results45]; go_simp) rfl ⟨rfl, HE.out⟩
  | true =>
    rw [hwh, Bool.true_and, decide_eq_false_iff_not] at ha
    have h8 : (8 : Int) < (L.length : Int) := by omega
    go_wp2_with fail
    refine bodyPost_ret (v := .tuple #[.slice none 0 0, .bool false]) (by simp only [results, Tryz.results45]; go_simp) rfl ⟨rfl, HE.out⟩
set_option maxRecDepth 20000 in
set_option maxHeartbeats 8000000 in
theorem placesOf_yes (N E : List P2) (L : List (List P2)) (A B C : Option Addr) (c c' c3 : Nat) (w : World) (hw : WR w N E A B c c') (hls : ∀ S ∈ L, S.length ≤ 1048576) (hr : RSS w C L) (ha : askB N E L = true) :
    Calls Tryz.prog 45 #[.agg #[.slice A N.length c, .slice B E.length c'], .slice C L.length c3] w fun e w' => ∃ A2 c2, e = .returned (.tuple #[.slice A2 L.length c2, .bool true]) ∧ L.length ≤ c2 ∧ c2 ≤ maxLen ∧ RNN w' A2 (plN N E L) ∧ Ext w w' := by
  obtain ⟨i0, hi, hz0, hz1, hz2⟩ := info_parts ints_info
  unfold askB at ha
  rw [Bool.and_eq_true, decide_eq_true_eq] at ha
  obtain ⟨hwh, h8⟩ := ha
  have HIW := hide (show ∀ (W : World), Ext w W → Calls Tryz.prog 85 #[.agg #[.slice A N.length c, .slice B E.length c']] W fun e w' => e = .returned (.bool true) ∧ Ext W w' from fun W hE => by have h := IsWhole_any N E A B c c' W (hw.ext hE); rw [hwh] at h; exact h)
  have HPF := hide (show ∀ (k : Nat) (hk : k < L.length) (W : World) (D : Option Addr) (d : Nat), Ext w W → R2 W D L[k] → Calls Tryz.prog 14 #[.agg #[.slice A N.length c, .slice B E.length c'], .slice D L[k].length d] W fun e w' => ∃ A2 c2, e = .returned (.slice A2 ((plN N E L).getD k []).length c2) ∧ w'.ownsRow W.heap.size 3 1 (.slice A2 ((plN N E L).getD k []).length c2) ((plN N E L).getD k []).length (encI (castZ ((plN N E L).getD k []))) ∧ Ext W w' from fun k hk W D d hE hD => by
    rw [plN_at hk]
    exact PlacesFor_any N E L[k] A B D c c' d W (hw.ext hE) (hls _ (List.getElem_mem hk)) hD)
  have HPL := hide (plN_length N E L)
  have HP40 := hide (plN_len N E L)
  obtain ⟨P, hP⟩ : ∃ P, plN N E L = P := ⟨_, rfl⟩
  rw [hP] at HPF HPL HP40 ⊢
  have HR := hide hr
  clear hw hr hls hwh hP
  
  go_enter Tryz.func45, Tryz.ntmps45
  go_wp2_with fail
  obtain ⟨w0, hw⟩ : ∃ w1, w1 = w.alloc (Obj.cells #[Value.slice A N.length c, Value.slice B E.length c'] 27) := ⟨_, rfl⟩; rw [← hw]; have kT : Tr [(w.heap.size, [.slice A N.length c, .slice B E.length c'])] w w0 := (by rw [hw]; exact ⟨by (first | (simp [Bx, CellsAt, go_sem, *]; done) | (simp [Bx, CellsAt, go_sem, *]; omega)), by (repeat (first | exact kE | exact Ext.refl _ | apply Ext.alloc | apply Ext.drewN | apply Ext.drew | apply Ext.set0 | apply Ext.set1 | apply Ext.set2 | apply Ext.set3 | (refine Ext.setk ?_ (by omega) _) | (apply Ext.snoc; assumption)))⟩); have HT := hide kT; clear hw kT; have kT := HT.out; simp only [Tr, Bx, CellsAt, Nat.reduceAdd, Nat.zero_add, and_true] at kT; obtain ⟨⟨kz0, kf0, kc0_0, kc0_1⟩, kE⟩ := kT
  have hL8 : ¬ (8 : Int) < (L.length : Int) := by omega
  refine (HIW.out _ kE).mono ?_
  rintro e w3 ⟨rfl, hb3⟩
  have HT' := hide (HT.out.ext hb3)
  have HE3 := hide (kE.trans hb3)
  clear hb3 HT
  have HT := HT'
  clear HT'
  clear kz0 kf0 kc0_0 kc0_1 kE
  have kT := HT.out; simp only [Tr, Bx, CellsAt, Nat.reduceAdd, Nat.zero_add, and_true] at kT; obtain ⟨⟨kz0, kf0, kc0_0, kc0_1⟩, kE⟩ := kT
  have HTZ := HT
  go_wp2_with fail
  clear kz0 kf0 kc0_0 kc0_1 kE
  clear HT
  go_loopw [6, 19] (fun v i wr => ∃ (k : Nat), k ≤ L.length ∧ i = .int .i64 k ∧ Hid (∃ hs, SOO wr w3.heap.size v k P hs) ∧ Hid (Ext w3 wr)) (fun _ i _ => L.length - (intOf i).toNat)
  case atStart => exact ⟨0, Nat.zero_le _, rfl, hide ⟨[], SOO.nil _ _ _⟩, hide (Ext.refl _)⟩
  case round =>
    obtain ⟨k, hk, rfl, HO, HE⟩ := hrel
    by_cases hlt : k < L.length
    · have hlz : (k : Int) < (L.length : Int) := by omega
      have hT2 := HTZ.out.ext HE.out
      have HT := hide hT2
      have kT := HT.out; simp only [Tr, Bx, CellsAt, Nat.reduceAdd, Nat.zero_add, and_true] at kT; obtain ⟨⟨kz0, kf0, kc0_0, kc0_1⟩, kE⟩ := kT
      clear hT2
      have HX := hide kE
      have hsz := HE.out.size
      obtain ⟨b3, off3, rfl, hb3, D, d, cj, hd1, hd2, hrD⟩ := (HR.out.ext (HE3.out.trans HE.out)).at_ hlt
      have HRD := hide hrD
      have HC := hide (HPF.out k hlt wr D d HX.out HRD.out)
      have hrow := HP40.out (P.getD k []) (by simp [HPL.out, hlt])
      obtain ⟨S, hS⟩ : ∃ S, L[k] = S := ⟨_, rfl⟩
      rw [hS] at cj HC
      obtain ⟨r, hrr⟩ : ∃ r, P.getD k [] = r := ⟨_, rfl⟩
      have HPK := hide hrr
      rw [hrr] at HC hrow
      clear hS hrD HRD hrr hd1
      go_wp2_with fail
      refine HC.out.mono ?_
      rintro e w4 ⟨A4, c4, rfl, ho4, hb4⟩
      obtain ⟨hs, hsoo⟩ := HO.out
      have HS4 := hide (hsoo.ext hb4)
      have HO4 := hide ho4
      have HE4 := hide (HE.out.trans hb4)
      have hs4 := HE4.out.size
      have hs5 := hb4.size
      clear hb4 HO HE HX HT cj hsoo ho4 HC
      clear kz0 kf0 kc0_0 kc0_1 kE
      go_wp2_with (at_builtin; refine wpList_append_own _ rfl _ _ 46 rfl w3.heap.size 31 i0 (.slice none 0 0) 1 24 Tryz.underlying46 hi hz0 hz1 hz2 rfl (by decide) u6 k hs rfl (own_ext HS4.out.1 ((Ext.refl _).alloc _)) ⟨w4.heap.size, 0, none⟩ 1 1 [.slice A4 r.length c4] rfl rfl (news_new w4 #[.slice A4 r.length c4] 31) (by intro u hu; simp at hu; subst hu; rfl) (by unfold maxLen; omega) (by omega) (by first | (simp; done) | (simp; omega)) ?_; intro v' w5 hown5 hgrow5 hnil)
      have E5 := hide (Ext.grown (HE4.out.alloc _) hgrow5 (own_base HS4.out.1 (Nat.le_refl _)))
      have HS5 := hide (show SOO w5 w3.heap.size v' (k + 1) P (hs ++ [.slice A4 (P.getD k []).length c4]) from HS4.out.app (own_mono (by rw [HPK.out]; exact HO4.out) (by omega)) (by rw [HPK.out]; exact hown5) hgrow5)
      clear hown5 hgrow5 hnil
      go_roundw
      case rel => exact ⟨k + 1, by omega, by go_num, hide ⟨_, HS5.out⟩, by first | exact E5 | exact hide E5.out⟩
      case measure => simp [intOf]; omega
    · obtain rfl : k = L.length := by omega
      have HXE := hide (HE3.out.trans HE.out)
      obtain ⟨hs, hsoo⟩ := HO.out
      obtain ⟨Ar, cr, rfl, _⟩ := own_slice hsoo.1
      have HS9 := hide hsoo
      have HLC := hide (own_len hsoo.1)
      clear hsoo HO
      go_wp2_with fail
      refine bodyPost_ret (v := .tuple #[.slice Ar L.length cr, .bool true]) (by simp only [results, Tryz.results45]; go_simp) rfl ⟨Ar, cr, rfl, HLC.out.1, HLC.out.2, by have h := HS9.out; rw [← HPL.out] at h; exact h.rnn, HXE.out⟩
end Go.Proofs.YtabgcpoaepafjaaGreat
