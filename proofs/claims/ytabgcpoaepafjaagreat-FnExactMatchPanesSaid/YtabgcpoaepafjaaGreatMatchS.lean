/- The walk of the reference's MatchPanes. No condition but that the lists are not too long. -/
import Derived.Test.YtabgcpoaepafjaaGreatLackS
import Derived.Test.YtabgcpoaepafjaaGreatBestM
set_option linter.unusedSimpArgs false
set_option linter.unusedVariables false
namespace Go.Proofs.YtabgcpoaepafjaaGreat
open Go.RowKit

/-- The panes that the shapes are given. -/
noncomputable def matchV (N E : List P2) (L : List (List P2)) : List Int := if askB N E L then pickR (plN N E L) [] else []
theorem matchV_yes {N E : List P2} {L : List (List P2)} (h : askB N E L = true) : matchV N E L = pickR (plN N E L) [] := by rw [matchV, if_pos h]
theorem matchV_no {N E : List P2} {L : List (List P2)} (h : askB N E L = false) : matchV N E L = [] := by rw [matchV, if_neg (by simp [h])]
theorem matchV_len (N E : List P2) (L : List (List P2)) : (matchV N E L).length ≤ 8 := by
  unfold matchV
  split
  · rename_i h
    unfold askB at h
    rw [Bool.and_eq_true, decide_eq_true_eq] at h
    rw [pickR_length, plN_length]
    exact h.2
  · simp
theorem SOO.lit {w : World} {base : Nat} {P : List (List Nat)} {v : Value} (h : w.ownsRow base 31 1 v 0 []) : SOO w base v 0 P [] := ⟨h, fun i hi => absurd hi (by omega)⟩
theorem info_ints : (Tryz.prog.info? 31).map (fun i => (i.zero, i.size, i.bytes)) = some (some (.slice none 0 0), 1, 24) := by kernel_rfl
theorem cell_low {w5 w6 : World} {ob : Obj} {row : Option Nat} {B b o : Nat} (hg : (w5.alloc ob).grownBy w6 row) (hB : ∀ k, row = some k → B ≤ k) (hb : b < B) (hs : B ≤ w5.heap.size) : w6.cell? ⟨b, o, none⟩ = w5.cell? ⟨b, o, none⟩ := by
  have h1 := (((Ext.refl w5).alloc ob).facts.1 b o (by omega))
  have h2 := ((Ext.refl w5).alloc ob).size
  rw [← h1]
  exact hg.cell_far _ (show b < _ by omega) fun e => by have := hB _ e.symm; have h3 : B ≤ b := this; omega
/-- Rows of numbers stay where a block of none of them turns. -/
theorem SOO.kept {w w' : World} {base k g : Nat} {v : Value} {P : List (List Nat)} {hs : List Value} (h : SOO w base v k P hs) (hg : w.grownBy w' (some g)) (hb : g < base) : SOO w' base v k P hs := by
  have keep : ∀ {T : TypeId} {n : Nat} {u : Value} {xs : List Value}, w.ownsRow base T 1 u n xs → w'.ownsRow base T 1 u n xs := fun {T n u xs} q => q.kept hg (by
    cases hu : u.ownBlock with
    | none => exact .inl rfl
    | some x => exact .inr fun e => by have := (q.lt x hu).1; injection e; omega)
  exact ⟨keep h.1, fun i hi => by obtain ⟨B, c, e1, e2⟩ := h.2 i hi; exact ⟨B, c, e1, keep e2⟩⟩
/-- Two lists of a call: the first was laid at its start, the second since a. -/
def TwoR (a w : World) (g0 : Nat) (v : Value) (n : Nat) (xs : List Value) (v' : Value) (n' : Nat) (xs' : List Value) : Prop :=
  OutR a w g0 3 1 v n xs ∧ w.ownsRow a.heap.size 3 1 v' n' xs' ∧ ∀ b, v.ownBlock = some b → v'.ownBlock = some b → False
theorem TwoR.start {w : World} {g0 : Nat} (h : w.ownsRow g0 3 1 (.slice (some ⟨g0, 0, none⟩) 0 0) 0 []) (hg : g0 < w.heap.size) : TwoR w (w.alloc (.cells #[] 3)) g0 (.slice (some ⟨g0, 0, none⟩) 0 0) 0 [] (.slice (some ⟨w.heap.size, 0, none⟩) 0 0) 0 [] :=
  ⟨(OutR.start h (fun k e => by have e : some g0 = some k := e; injection e with e; exact e.symm)).ext ((Ext.refl w).alloc _), lit_own w 3 1, fun b h1 h2 => by
    have h1 : some g0 = some b := h1
    have h2 : some w.heap.size = some b := h2
    injection h1; injection h2; omega⟩
section
variable {a w w1 : World} {g0 n n' m : Nat} {v v' u : Value} {xs xs' ys : List Value}
theorem TwoR.ext (h : TwoR a w g0 v n xs v' n' xs') (hE : Ext w w1) : TwoR a w1 g0 v n xs v' n' xs' := ⟨h.1.ext hE, own_ext h.2.1 hE, h.2.2⟩
theorem TwoR.fst (h : TwoR a w g0 v n xs v' n' xs') {o : Obj} (hown : w1.ownsRow g0 3 1 u m ys) (hg : (w.alloc o).grownBy w1 v.ownBlock) (hl : u.ownBlock = v.ownBlock ∨ u.ownBlock = some (w.alloc o).heap.size) : TwoR a w1 g0 u m ys v' n' xs' := by
  refine ⟨h.1.app hown hg hl, (own_ext h.2.1 ((Ext.refl w).alloc o)).kept hg ?_, fun b h1 h2 => ?_⟩
  · cases hu : v'.ownBlock with
    | none => exact .inl rfl
    | some x => exact .inr fun e => h.2.2 x e.symm hu
  · rcases hl with q | q
    · exact h.2.2 b (by rw [← q]; exact h1) h2
    · rw [q] at h1
      injection h1 with h1
      have := (h.2.1.lt b h2).2
      have := ((Ext.refl w).alloc o).size
      omega
theorem TwoR.snd (h : TwoR a w g0 v n xs v' n' xs') {o : Obj} (hown : w1.ownsRow a.heap.size 3 1 u m ys) (hg : (w.alloc o).grownBy w1 v'.ownBlock) (hl : u.ownBlock = v'.ownBlock ∨ u.ownBlock = some (w.alloc o).heap.size) : TwoR a w1 g0 v n xs u m ys := by
  have h1 := h.1.ext ((Ext.refl w).alloc o)
  refine ⟨⟨h1.1.kept hg ?_, grow_carry h1.2.1 hg fun g e => .inr (h.2.1.lt g e).1, h1.2.2⟩, hown, fun b e1 e2 => ?_⟩
  · cases hu : v.ownBlock with
    | none => exact .inl rfl
    | some x => exact .inr fun e => h.2.2 x hu e.symm
  · rcases hl with q | q
    · exact h.2.2 b e1 (by rw [← q]; exact e2)
    · rw [q] at e2
      injection e2 with e2
      have := (h.1.1.lt b e1).2
      have := ((Ext.refl w).alloc o).size
      omega
end
theorem best_at {P : List (List Nat)} {m base cs : Nat} {As : Option Addr} {hs : List Value} (W : World) (n : Nat) (used : List Nat) (U : Option Addr) (cu f : Nat) (hm : P.length = m) (h8 : m ≤ 8) (h40 : ∀ r ∈ P, r.length ≤ 40) (hlt : ∀ r ∈ P, ∀ p ∈ r, p < 40) (hn : used.length = n) (hf : f ≤ m) (hnm : n ≤ m) (hcu : n ≤ cu)
    (hS : SOO W base (.slice As m cs) m P hs) (hU : Rds W 1 U n (encI (castZ used))) : Calls Tryz.prog 78 #[.slice As m cs, .int .i64 (f : Int), .slice U n cu] W fun e w' => e = .returned (.int .i64 (bestM (P.drop f) used : Nat)) ∧ Ext W w' := by
  subst hm
  subst hn
  exact l19Best_any P As cs h8 h40 hlt (P.length - f) f used U cu W (by omega) (by omega) hcu hS.rnn hU
theorem soo_rnn {w : World} {base m c : Nat} {A : Option Addr} {P : List (List Nat)} {hs : List Value} (hm : P.length = m) (h : SOO w base (.slice A m c) m P hs) : RNN w A P := by
  subst hm
  exact h.rnn
theorem best_at1 {P : List (List Nat)} {m base cs : Nat} {As : Option Addr} {hs : List Value} (W : World) (n : Nat) (used : List Nat) (U : Option Addr) (cu f y : Nat) (hfy : f = y + 1) (hm : P.length = m) (h8 : m ≤ 8) (h40 : ∀ r ∈ P, r.length ≤ 40) (hlt : ∀ r ∈ P, ∀ p ∈ r, p < 40) (hn : used.length = n) (hf : f ≤ m) (hnm : n ≤ m) (hcu : n ≤ cu)
    (hS : SOO W base (.slice As m cs) m P hs) (hU : Rds W 1 U n (encI (castZ used))) : Calls Tryz.prog 78 #[.slice As m cs, .int .i64 ((y : Int) + 1), .slice U n cu] W fun e w' => e = .returned (.int .i64 (bestM (P.drop f) used : Nat)) ∧ Ext W w' := by
  subst hfy
  exact best_at W n used U cu (y + 1) hm h8 h40 hlt hn hf hnm hcu hS hU
/-- The number found among the first j. -/
def FindI (r : List Nat) (T : Nat → Bool) (j : Nat) (f : Int) : Prop := (f = -1 ∧ ∀ x ∈ r.take j, T x = false) ∨ ∃ p : Nat, f = (p : Int) ∧ r.find? T = some p
theorem FindI.start (r : List Nat) (T : Nat → Bool) : FindI r T 0 (-1) := .inl ⟨rfl, by simp⟩
theorem FindI.no {r : List Nat} {T : Nat → Bool} {j : Nat} {f : Int} (h : FindI r T j f) (hj : j < r.length) (hf : f < 0) (ht : T r[j] = false) : FindI r T (j + 1) f := by
  rcases h with ⟨rfl, h⟩ | ⟨p, rfl, _⟩
  · refine .inl ⟨rfl, fun x hx => ?_⟩
    rw [List.take_succ_eq_append_getElem hj] at hx
    rcases List.mem_append.1 hx with q | q
    · exact h x q
    · rw [List.mem_singleton] at q
      rw [q]
      exact ht
  · omega
theorem FindI.yes {r : List Nat} {T : Nat → Bool} {j : Nat} {f : Int} (h : FindI r T j f) (hj : j < r.length) (hf : f < 0) (ht : T r[j] = true) : FindI r T (j + 1) (r[j] : Nat) := by
  rcases h with ⟨rfl, h⟩ | ⟨p, rfl, _⟩
  · refine .inr ⟨r[j], rfl, ?_⟩
    rw [List.find?_eq_some_iff_append]
    refine ⟨ht, r.take j, r.drop (j + 1), ?_, fun x hx => by simp [h x hx]⟩
    rw [List.getElem_cons_drop, List.take_append_drop]
  · omega
theorem FindI.none {r : List Nat} {T : Nat → Bool} {f : Int} (h : FindI r T r.length f) (hf : f < 0) : f = -1 ∧ r.find? T = Option.none := by
  rcases h with ⟨rfl, h⟩ | ⟨p, rfl, _⟩
  · exact ⟨rfl, List.find?_eq_none.2 fun x hx => by simp [h x (by simpa using hx)]⟩
  · omega
theorem FindI.some {r : List Nat} {T : Nat → Bool} {j : Nat} {f : Int} (h : FindI r T j f) (hf : ¬ f < 0) : ∃ p : Nat, f = (p : Int) ∧ r.find? T = Option.some p := by
  rcases h with ⟨rfl, h⟩ | h
  · omega
  · exact h
theorem has_nat (used : List Nat) (p : Nat) : hasL (castZ used) (p : Int) = used.contains p := by
  rw [Bool.eq_iff_iff, hasL_iff]
  simp [castZ]
  exact ⟨fun ⟨a, h1, h2⟩ => by
    have h3 : a = p := by omega
    exact h3 ▸ h1, fun h => ⟨p, h, rfl⟩⟩
theorem wpList_on {P : Program} {ops : Array Oper} {Q : Exit → Act → World → Prop} {rest : List Oper} {d : Option Tmp} {op : Op} {ty : TypeId} {pos : String} {af : Array Edge} {g : Option (Nat × Bool)} {a : Act} {w : World} (hw : Region.wanted ⟨d, op, ty, pos, af, g⟩ (yielded ops a.tmps) = true) (h : wpList P ops Q (⟨d, op, ty, pos, af, none⟩ :: rest) a w) : wpList P ops Q (⟨d, op, ty, pos, af, g⟩ :: rest) a w := by
  unfold wpList at h ⊢
  rw [if_pos hw]
  rw [if_pos (show Region.wanted ⟨d, op, ty, pos, af, none⟩ (yielded ops a.tmps) = true from rfl)] at h
  exact h
theorem own_some {w : World} {base n sz : Nat} {T : TypeId} {v : Value} {xs : List Value} (h : w.ownsRow base T sz v n xs) (hv : v ≠ .slice none 0 0) : ∃ g c, v = .slice (some ⟨g, 0, none⟩) n c := by
  rcases h.2 with ⟨q, _⟩ | ⟨g, cap, cur, q, _⟩
  · exact absurd q hv
  · exact ⟨g, cap, q⟩
theorem rds_add {w : World} {g n j : Nat} {xs : List Value} {u : Value} (h : Rds w 1 (some ⟨g, 0, none⟩) n xs) (hu : xs[j]? = some u) : w.cell? ((⟨g, 0, none⟩ : Addr).add j) = some u := by
  have hl := h.1
  have hj := (List.getElem?_eq_some_iff.1 hu).1
  obtain ⟨b, off, e, _, hc⟩ := h.2 (by omega)
  injection e with e
  injection e with e1 e2
  subst e1 e2
  have hadd : (⟨g, 0, none⟩ : Addr).add j = ⟨g, 0 + j, none⟩ := by unfold Addr.add; split <;> simp_all
  rw [hadd]
  exact hc j u hu
theorem enc_all (l : List Int) : ∀ u ∈ encI l, u.oneCell' = true := by
  intro u hu
  unfold encI at hu
  obtain ⟨x, _, rfl⟩ := List.mem_map.1 hu
  rfl
theorem pickR_yes {r : List Nat} {Q : List (List Nat)} {used : List Nat} {p : Nat} (h : pickOf r Q used = some p) : pickR (r :: Q) used = (p : Int) :: pickR Q (used ++ [p]) := by rw [pickR, h]
theorem pickR_none {r : List Nat} {Q : List (List Nat)} {used : List Nat} (h : pickOf r Q used = none) : pickR (r :: Q) used = (-1) :: pickR Q used := by rw [pickR, h]
theorem encI_snoc (l : List Int) (x : Int) : encI (l ++ [x]) = encI l ++ [.int .i64 x] := by simp [encI]
set_option maxRecDepth 20000 in
set_option maxHeartbeats 16000000 in
theorem sMatchPanes_any (N E : List P2) (L : List (List P2)) (A B C : Option Addr) (c c' c3 : Nat) (w : World) (hw : WR w N E A B c c') (hl : L.length ≤ 1048576) (hls : ∀ S ∈ L, S.length ≤ 1048576) (hr : RSS w C L) :
    Calls Tryz.prog 41 #[.agg #[.slice A N.length c, .slice B E.length c'], .slice C L.length c3] w fun e w' => ∃ A2 c2, e = .returned (.slice A2 (matchV N E L).length c2) ∧ w'.ownsRow w.heap.size 3 1 (.slice A2 (matchV N E L).length c2) (matchV N E L).length (encI (matchV N E L)) ∧ Ext w w' := by
  obtain ⟨i0, hi, hz0, hz1, hz2⟩ := info_parts int_info
  obtain ⟨i1, hj, hy0, hy1, hy2⟩ := info_parts info_ints
  have HIW := hide (fun (W : World) (hE : Ext w W) => sIsWhole_any N E A B c c' W (hw.ext hE))
  have HPF := hide (show ∀ (k : Nat) (hk : k < L.length) (W : World) (D : Option Addr) (d : Nat), Ext w W → R2 W D L[k] → Calls Tryz.prog 71 #[.agg #[.slice A N.length c, .slice B E.length c'], .slice D L[k].length d] W fun e w' => ∃ A2 c2, e = .returned (.slice A2 ((plN N E L).getD k []).length c2) ∧ w'.ownsRow W.heap.size 3 1 (.slice A2 ((plN N E L).getD k []).length c2) ((plN N E L).getD k []).length (encI (castZ ((plN N E L).getD k []))) ∧ Ext W w' from fun k hk W D d hE hD => by
    rw [plN_at hk]
    exact sPlacesFor_any N E L[k] A B D c c' d W (hw.ext hE) (hls _ (List.getElem_mem hk)) hD)
  have HVN := hide (fun h => matchV_no (N := N) (E := E) (L := L) h)
  have HVY := hide (fun h => matchV_yes (N := N) (E := E) (L := L) h)
  have HPL := hide (plN_length N E L)
  have HLT := hide (plN_lt N E L)
  have HP40 := hide (plN_len N E L)
  have HASK := hide (show askB N E L = (wholeB N E && decide (L.length ≤ 8)) from rfl)
  obtain ⟨P, hP⟩ : ∃ P, plN N E L = P := ⟨_, rfl⟩
  obtain ⟨V, hV⟩ : ∃ V, matchV N E L = V := ⟨_, rfl⟩
  obtain ⟨q, hq⟩ : ∃ q, askB N E L = q := ⟨_, rfl⟩
  rw [hP] at HPF HVY HPL HLT HP40
  rw [hV] at HVN HVY ⊢
  rw [hq] at HVN HVY HASK
  have HR := hide hr
  clear hw hr hls hP hV hq
  
  go_enter Tryz.func41, Tryz.ntmps41
  go_wp2_with fail
  obtain ⟨w0, hw⟩ : ∃ w1, w1 = (w.alloc (Obj.cells #[Value.slice A N.length c, Value.slice B E.length c'] 27)).alloc (Obj.cells #[] 3) := ⟨_, rfl⟩; rw [← hw]; have kT : Tr [(w.heap.size, [.slice A N.length c, .slice B E.length c'])] w w0 := (by rw [hw]; exact ⟨by (first | (simp [Bx, CellsAt, go_sem, *]; done) | (simp [Bx, CellsAt, go_sem, *]; omega)), by (repeat (first | exact kE | exact Ext.refl _ | apply Ext.alloc | apply Ext.drewN | apply Ext.drew | apply Ext.set0 | apply Ext.set1 | apply Ext.set2 | apply Ext.set3 | (refine Ext.setk ?_ (by omega) _) | (apply Ext.snoc; assumption)))⟩); have HT := hide kT; clear kT; have kT := HT.out; simp only [Tr, Bx, CellsAt, Nat.reduceAdd, Nat.zero_add, and_true] at kT; obtain ⟨⟨kz0, kf0, kc0_0, kc0_1⟩, kE⟩ := kT
  have HO0 := hide (show w0.ownsRow (w.heap.size + 1) 3 1 (.slice (some ⟨w.heap.size + 1, 0, none⟩) 0 0) 0 [] from by
    rw [hw]
    have h := World.ownsRow_lit (base := w.heap.size + 1) (e := 3) (size := 1) (w.alloc (Obj.cells #[Value.slice A N.length c, Value.slice B E.length c'] 27)) #[] 0 (by simp) (Nat.zero_le _) rfl
    simpa using h)
  have hsz0 : w.heap.size + 1 < w0.heap.size := by rw [hw]; simp
  clear hw
  refine (HIW.out _ kE).mono ?_
  rintro e w3 ⟨rfl, hb3⟩
  have HO3 := hide (own_ext HO0.out hb3)
  have hsz3 := Nat.lt_of_lt_of_le hsz0 hb3.size
  have HE3 := hide (kE.trans hb3)
  have HT' := hide (HT.out.ext hb3)
  clear hb3 HT HO0 hsz0
  have HT := HT'
  clear HT'
  clear kz0 kf0 kc0_0 kc0_1 kE
  have kT := HT.out; simp only [Tr, Bx, CellsAt, Nat.reduceAdd, Nat.zero_add, and_true] at kT; obtain ⟨⟨kz0, kf0, kc0_0, kc0_1⟩, kE⟩ := kT
  cases hwh : wholeB N E with
  | false =>
    rw [hwh, Bool.false_and] at HASK
    obtain rfl := HVN.out HASK.out
    go_wp2_with fail
    go_ret
    exact ⟨_, _, rfl, own_mono HO3.out (by omega), HE3.out⟩
  | true =>
    rw [hwh, Bool.true_and] at HASK
    by_cases h8n : ¬ L.length ≤ 8
    · have h8z : (8 : Int) < (L.length : Int) := by omega
      rw [decide_eq_false h8n] at HASK
      obtain rfl := HVN.out HASK.out
      go_wp2_with fail
      go_ret
      exact ⟨_, _, rfl, own_mono HO3.out (by omega), HE3.out⟩
    · have h8 : L.length ≤ 8 := by omega
      clear h8n
      have hL8 : ¬ (8 : Int) < (L.length : Int) := by omega
      rw [decide_eq_true h8] at HASK
      have HV2 := hide (HVY.out HASK.out)
      clear HVN HVY HASK hwh
      obtain ⟨m, hm⟩ : ∃ m, L.length = m := ⟨_, rfl⟩
      have HPM := hide (show P.length = m from by rw [HPL.out, hm])
      have HLM := hide hm
      rw [hm] at h8 hL8 ⊢
      clear HPL hm
      go_wp2_with fail
      have HT4 := hide HT.out
      have HG0 := hide (show SOO (w3.alloc (.cells #[] 31)) w3.heap.size (.slice (some ⟨w3.heap.size, 0, none⟩) 0 0) 0 P [] from SOO.lit (lit_own w3 31 1))
      clear HT
      clear kz0 kf0 kc0_0 kc0_1 kE
      go_loopw [6, 7] (fun v i wr => ∃ k : Nat, k ≤ m ∧ i = .int .i64 k ∧ Hid (∃ hs, SOO wr w3.heap.size v k P hs) ∧ Hid (Ext w3 wr)) (fun _ i _ => m - (intOf i).toNat)
      case atStart => exact ⟨0, Nat.zero_le _, rfl, hide ⟨[], HG0.out⟩, hide ((Ext.refl _).alloc _)⟩
      case round =>
        clear HG0
        obtain ⟨k, hk, rfl, HO, HE⟩ := hrel
        have hsz := HE.out.size
        have HT := hide (HT4.out.ext HE.out)
        by_cases hlt : k < m
        · have kT := HT.out; simp only [Tr, Bx, CellsAt, Nat.reduceAdd, Nat.zero_add, and_true] at kT; obtain ⟨⟨kz0, kf0, kc0_0, kc0_1⟩, kE⟩ := kT
          have hlz : (k : Int) < (m : Int) := by omega
          have HX := hide kE
          have hkL : k < L.length := by rw [HLM.out]; exact hlt
          obtain ⟨b3, off3, rfl, hb3, D, d, cj0, hd1, hd2, hrD⟩ := HR.out.at_ hkL
          have cj := (HX.out.facts.1 b3 (off3 + k) hb3).trans cj0
          have hszw := HX.out.size
          have HRD := hide hrD
          have HC := hide (fun (W : World) (hE : Ext wr W) => HPF.out k hkL W D d (HX.out.trans hE) (HRD.out.ext (HX.out.trans hE)))
          have hkP : k < P.length := by rw [HPM.out]; exact hlt
          have hgd : P.getD k [] = P[k] := by simp [hkP]
          have hr40 := HP40.out _ (List.getElem_mem hkP)
          obtain ⟨S, hS⟩ : ∃ S, L[k] = S := ⟨_, rfl⟩
          rw [hS] at cj HC
          obtain ⟨r, hrr⟩ : ∃ r, P[k] = r := ⟨_, rfl⟩
          rw [hrr] at hgd hr40
          have HGD := hide hgd
          rw [hgd] at HC
          obtain ⟨hs, hsoo⟩ := HO.out
          have HS := hide hsoo
          have g3 : w.heap.size < w3.heap.size := by omega
          have g4 : b3 < w3.heap.size := by omega
          have HVW := hide (own_base hsoo.1 (Nat.le_refl _))
          clear hS hrD HRD hrr hd1 hgd hkP hkL HO hsoo cj0
          go_wp2_with fail
          go_region_held3 (fun w' => w'.cell? ⟨w.heap.size, 0, none⟩ = some (.slice A N.length c) ∧ w'.cell? ⟨w.heap.size, 1, none⟩ = some (.slice B E.length c') ∧ w'.cell? ⟨b3, off3 + k, none⟩ = some (.slice D S.length d)) (first | exact ⟨kc0_0, kc0_1, cj⟩ | exact ⟨d0, d1, d2⟩ | exact ⟨e0, e1, e2⟩ | go_keep) ((first | (go_at_call 71; refine (HC.out _ (by repeat (first | exact Ext.refl _ | apply Ext.alloc | apply Ext.drewN | apply Ext.drew))).mono ?_; rintro e w5 ⟨A5, c5, rfl, ho5, hb5⟩; have HO5 := hide ho5; have HE5 := hide (show Ext wr w5 from Ext.trans (by repeat (first | exact Ext.refl _ | apply Ext.alloc | apply Ext.drewN | apply Ext.drew)) hb5); have hz5 := HE5.out.size; have g5 := Nat.le_trans hsz hz5; have d0 := (HE5.out.facts.1 _ 0 (by omega)).trans kc0_0; have d1 := (HE5.out.facts.1 _ 1 (by omega)).trans kc0_1; have d2 := (HE5.out.facts.1 b3 (off3 + k) (by omega)).trans cj; clear ho5) | (refine step_append_lies _ (by rfl) _ _ _ (by rfl) w3.heap.size 31 i1 (.slice none 0 0) 1 24 Tryz.underlying46 hj hy0 hy1 hy2 rfl (by omega) u6 k hs (by rfl) (own_ext HS.out.1 (HE5.out.alloc _)) ⟨w5.heap.size, 0, none⟩ 1 1 [Value.slice A5 r.length c5] (by rfl) (by rfl) (news_new w5 #[Value.slice A5 r.length c5] 31) (by intro u hu; simp at hu; subst hu; rfl) (by omega) (by unfold maxLen; omega) (by omega) (by simp; omega) (w5.heap.size + 1) (by simp) ?_; intro gg cap w6 hown6 hgrow hat6 hlt6; have e0 := (cell_low (o := 0) hgrow HVW.out g3 g5).trans d0; have e1 := (cell_low (o := 1) hgrow HVW.out g3 g5).trans d1; have e2 := (cell_low (o := off3 + k) hgrow HVW.out g4 g5).trans d2)))
          have HS6 := hide (show SOO w6 w3.heap.size (.slice (some ⟨gg, 0, none⟩) (k + 1) cap) (k + 1) P (hs ++ [.slice A5 (P.getD k []).length c5]) from (HS.out.ext HE5.out).app (o := Obj.cells #[Value.slice A5 r.length c5] 31) (own_mono (by rw [HGD.out]; exact HO5.out) (by first | omega | (simp; omega))) (by rw [HGD.out]; exact hown6) hgrow)
          have E6 := hide (Ext.grown (HE.out.trans (HE5.out.alloc _)) hgrow (own_base HS.out.1 (Nat.le_refl _)))
          clear hown6 hgrow hat6 hlt6 e0 e1 e2 d0 d1 d2
          go_wp2_with fail
          go_roundw
          case rel => exact ⟨k + 1, by omega, by go_num, hide ⟨_, HS6.out⟩, by first | exact E6 | exact hide E6.out⟩
          case measure => simp [intOf]; omega
        · obtain rfl : k = m := by omega
          rename World => wx
          have HXE := hide (HE3.out.trans HE.out)
          have HOU := hide (own_ext HO3.out HE.out)
          obtain ⟨hs, hsoo⟩ := HO.out
          obtain ⟨As, cs, rfl, _⟩ := own_slice hsoo.1
          have HSO := hide hsoo
          have hszw := HXE.out.size
          have g3 : w.heap.size + 1 < w3.heap.size := hsz3
          clear HO HE HT HT4 HO3 HE3 hsoo HPF HR
          go_wp2_with fail
          have HTW := hide (TwoR.start (w := wx) (g0 := w.heap.size + 1) HOU.out (by omega))
          have HEX := hide (HXE.out)
          have HLB := hide (fun (W : World) (n : Nat) (used : List Nat) (U : Option Addr) (cu : Nat) (f : Nat) (hn : used.length = n) (hf : f ≤ k) (hnf : n ≤ k) (hcu : n ≤ cu) (hS : SOO W w3.heap.size (.slice As k cs) k P hs) (hU : Rds W 1 U n (encI (castZ used))) => best_at W n used U cu f HPM.out h8 HP40.out HLT.out hn hf hnf hcu hS hU)
          have hwx : w.heap.size + 1 < wx.heap.size := by omega
          clear hsz
          have HLT2 := hide HLT.out
          go_loopw [5, 8, 9] (fun v u i wr => ∃ (y : Nat) (used : List Nat) (n : Nat) (zs : List Int), y ≤ k ∧ i = .int .i64 y ∧ n ≤ y ∧ Hid (used.length = n) ∧ Hid (V = zs ++ pickR (P.drop y) used) ∧ Hid (u ≠ .slice none 0 0) ∧ Hid (TwoR wx wr (w.heap.size + 1) v y (encI zs) u n (encI (castZ used)))) (fun _ _ i _ => k - (intOf i).toNat)
          case atStart => exact ⟨0, [], 0, [], Nat.zero_le _, rfl, Nat.le_refl _, hide rfl, hide HV2.out, hide (by intro e; cases e), hide HTW.out⟩
          case round =>
            clear HTW
            obtain ⟨y, used, n, zs, hy, rfl, hny, HN, HV, HNIL, HW⟩ := hrel
            by_cases hlt : y < k
            · have hyz : (y : Int) < (k : Int) := by omega
              clear HV2 HIW
              obtain ⟨gU, cu, rfl⟩ := own_some HW.out.2.1 HNIL.out
              obtain ⟨U, hU⟩ : ∃ U : Option Addr, U = some ⟨gU, 0, none⟩ := ⟨_, rfl⟩
              rw [← hU] at HW
              have HUU := hide hU
              rw [← hU]
              clear hU
              have HCU := hide (own_len HW.out.2.1)
              have hcu := HCU.out.1
              have HSW := hide (HSO.out.kept HW.out.1.2.1 (by omega))
              have HB := hide (best_at wr n used U cu y HPM.out h8 HP40.out HLT.out HN.out (by omega) (by omega) hcu HSW.out (Rds.of_own HW.out.2.1))
              have HBI := hide (fun (W : World) (U2 : Option Addr) (c2 : Nat) (u2 : List Nat) (hu : u2.length = n + 1) (hc2 : n + 1 ≤ c2) (hE : Ext wr W) (hU2 : Rds W 1 U2 (n + 1) (encI (castZ u2))) => best_at1 W (n + 1) u2 U2 c2 (y + 1) y rfl HPM.out h8 HP40.out HLT.out hu (by omega) (by omega) hc2 (HSW.out.ext hE) hU2)
              have hyP : y < P.length := by rw [HPM.out]; exact hlt
              have hdr : P.drop y = P[y] :: P.drop (y + 1) := List.drop_eq_getElem_cons hyP
              have hr40 := HP40.out _ (List.getElem_mem hyP)
              have HRL := hide (HLT.out _ (List.getElem_mem hyP))
              obtain ⟨bP, oP, rfl, hbP, D, dd, cP, hd1, hd2, hrD⟩ := (soo_rnn HPM.out HSW.out).at_ hyP
              have HRD := hide hrD
              rw [hdr] at HB HV
              obtain ⟨r, hrr⟩ : ∃ r, P[y] = r := ⟨_, rfl⟩
              rw [hrr] at hr40 HRL cP hd1 HRD HB HV
              obtain ⟨Q, hQ⟩ : ∃ Q, P.drop (y + 1) = Q := ⟨_, rfl⟩
              rw [hQ] at HB HV HBI
              have hQL : Q.length ≤ 8 := by have := HPM.out; rw [← hQ, List.length_drop]; omega
              have HBQ := hide (fun u => bestM_le Q u)
              have hbb := bestM_le (r :: Q) used
              have HTK := hide (show ∀ p, takes Q used (bestM (r :: Q) used) p = (!used.contains p && decide (1 + bestM Q (used ++ [p]) = bestM (r :: Q) used)) from fun p => rfl)
              have HPK := hide (show pickOf r Q used = r.find? (takes Q used (bestM (r :: Q) used)) from rfl)
              simp only [List.length_cons] at hbb
              obtain ⟨T, hT⟩ : ∃ T, takes Q used (bestM (r :: Q) used) = T := ⟨_, rfl⟩
              rw [hT] at HTK HPK
              obtain ⟨bb, hb⟩ : ∃ bb, bestM (r :: Q) used = bb := ⟨_, rfl⟩
              rw [hb] at HB HTK hbb
              have HQ := hide hQ
              clear hT hb hQ hrr hdr hyP hrD
              go_wp2_with fail
              refine HB.out.mono ?_
              rintro e w2 ⟨rfl, hb2⟩
              have HE2 := hide hb2
              have cP2 := (hb2.facts.1 _ _ hbP).trans cP
              have hbP2 := hb2.facts.2.2 _ hbP
              have HRD2 := hide (Rds.ext HRD.out hb2)
              have HU2 := hide (own_ext HW.out.2.1 hb2)
              have HW2 := hide (HW.out.ext hb2)
              have HBI2 := hide (fun (W : World) (U2 : Option Addr) (c2 : Nat) (u2 : List Nat) (hu : u2.length = n + 1) (hc2 : n + 1 ≤ c2) (hE : Ext w2 W) (hU2 : Rds W 1 U2 (n + 1) (encI (castZ u2))) => HBI.out W U2 c2 u2 hu hc2 (hb2.trans hE) hU2)
              clear hb2 HBI HRD HW HSW
              go_wp2_with fail
              go_loopw [11, 12] (fun x i wq => ∃ (j : Nat) (f : Int), j ≤ r.length ∧ i = .int .i64 j ∧ x = .int .i64 f ∧ Hid (FindI r T j f) ∧ Hid (Ext w2 wq)) (fun _ i _ => r.length - (intOf i).toNat)
              case atStart => exact ⟨0, -1, Nat.zero_le _, rfl, rfl, hide (FindI.start r T), hide (Ext.refl _)⟩
              case round =>
                obtain ⟨j, f, hj, rfl, rfl, HF, HE3⟩ := hrel
                have cP3 := (HE3.out.facts.1 _ _ hbP2).trans cP2
                have hbP3 := HE3.out.facts.2.2 _ hbP2
                by_cases hjr : j < r.length
                · have hjz : (j : Int) < (r.length : Int) := by omega
                  obtain ⟨bR, oR, rfl, hbR, hcR⟩ := (Rds.ext HRD2.out HE3.out).2 (by omega)
                  have cR := hcR j _ (encI_castZ_get hjr)
                  have hpl := HRL.out _ (List.getElem_mem hjr)
                  by_cases hf0 : f < 0
                  · have HNO := hide (HF.out.no hjr hf0)
                    have HYES := hide (HF.out.yes hjr hf0)
                    obtain ⟨p, hp⟩ : ∃ p, r[j] = p := ⟨_, rfl⟩
                    rw [hp] at cR hpl HNO HYES
                    have hbm := HBQ.out (used ++ [p])
                    have htk := HTK.out p
                    have HUR := hide (Rds.ext (Rds.of_own HU2.out) HE3.out)
                    have hhas : hasL (castZ used) (p : Int) = used.contains p := has_nat used p
                    have HHAS := hide (show ∀ (W : World), Ext wr W → Calls Tryz.prog 79 #[.slice U n cu, .int .i64 (p : Int)] W fun e w' => e = .returned (.bool (used.contains p)) ∧ W = w' from fun W h => by
                      have hz : (castZ used).length = n := by rw [castZ_length]; exact HN.out
                      have h3 := l06Has_any (castZ used) U cu (p : Int) W (by omega) (show Rds W 1 U (castZ used).length (encI (castZ used)) from by rw [hz]; exact Rds.ext HUR.out h)
                      rw [hz, hhas] at h3
                      exact h3)
                    clear hp hcR hhas HF
                    go_wp2_with fail
                    refine (HHAS.out _ (Ext.refl _)).mono ?_
                    rintro e w4 ⟨rfl, hb4⟩
                    have hb4 : Ext wr w4 := hb4 ▸ Ext.refl _
                    have HE4 := hide (HE3.out.trans hb4)
                    clear hb4 HE3 HHAS HUR
                    cases hcon : used.contains p with
                    | true =>
                      rw [hcon, Bool.not_true, Bool.false_and] at htk
                      have HNO2 := hide (HNO.out htk)
                      clear HNO HYES htk hcon
                      go_wp2_with fail
                      go_roundw
                      case rel => exact ⟨j + 1, f, by omega, by go_num, rfl, HNO2, HE4⟩
                      case measure => simp [intOf]; omega
                    | false =>
                      rw [hcon, Bool.not_false, Bool.true_and] at htk
                      clear hcon
                      have hcu1 := HCU.out.2
                      have hn8 : n ≤ 8 := by omega
                      have HUN := hide (show ∀ (W : World), Ext w4 W → ∀ j u, (encI (castZ used))[j]? = some u → W.cell? ((⟨gU, 0, none⟩ : Addr).add j) = some u from fun W h j u hu => by
                        have h2 := Rds.ext (Rds.of_own HU2.out) (HE4.out.trans h)
                        rw [HUU.out] at h2
                        exact rds_add h2 hu)
                      have HZN := hide (show (encI (castZ used)).length = n * 1 from by simp [encI, castZ, HN.out])
                      obtain rfl := HUU.out
                      go_wp2_with (first | (at_builtin; refine wpList_on (by rfl) ?_; refine wpList_append_own _ rfl (.tmp 79) (.tmp 80) 31 rfl w4.heap.size 3 i0 (.int .i64 0) 1 8 Tryz.underlying31 hi hz0 hz1 hz2 rfl (by decide) (.slice (some ⟨w4.heap.size, 0, none⟩) 0 0) 0 [] rfl (lit_own w4 3 1) ⟨gU, 0, none⟩ n cu (encI (castZ used)) rfl HZN.out (HUN.out _ ((Ext.refl w4).alloc _)) (enc_all _) (by unfold maxLen; omega) (by omega) (by first | (simp; done) | (simp; omega)) ?_; intro v5 w5 hown5 hgrow5 hnil5) | (at_builtin; refine wpList_on (by rfl) ?_; refine wpList_append_own _ rfl (.tmp 81) (.tmp 83) 31 rfl w4.heap.size 3 i0 (.int .i64 0) 1 8 Tryz.underlying31 hi hz0 hz1 hz2 rfl (by decide) v5 (0 + n) ([] ++ encI (castZ used)) rfl (own_ext hown5 ((Ext.refl w5).alloc _)) ⟨w5.heap.size, 0, none⟩ 1 1 [.int .i64 (p : Int)] rfl rfl (news_new w5 #[.int .i64 (p : Int)] 3) (enc_one _) (by unfold maxLen; omega) (by omega) (by have := hgrow5.size; simp at this; simp; omega) ?_; intro v6 w6 hown6 hgrow6 hnil6))
                      rw [Nat.zero_add, List.nil_append, ← castZ_snoc] at hown6
                      have E5 : Ext w4 w5 := Ext.grown ((Ext.refl w4).alloc _) hgrow5 (fun k e => by have e : some w4.heap.size = some k := e; injection e; omega)
                      have HE6 := hide (Ext.grown (E5.alloc _) hgrow6 (own_base hown5 (Nat.le_refl _)))
                      obtain ⟨U2, c2, rfl, _⟩ := own_slice hown6
                      have HC := hide (HBI2.out w6 U2 c2 (used ++ [p]) (by simp [HN.out]) (own_len hown6).1 (HE4.out.trans HE6.out) (Rds.of_own hown6))
                      obtain ⟨Bq, hBq⟩ : ∃ Bq, bestM Q (used ++ [p]) = Bq := ⟨_, rfl⟩
                      rw [hBq] at htk hbm HC
                      have HE7 := hide (HE4.out.trans HE6.out)
                      clear hBq hown5 hown6 hgrow5 hgrow6 hnil5 hnil6 E5 HE6 HE4
                      refine HC.out.mono ?_
                      rintro e w7 ⟨rfl, hb7⟩
                      have HE8 := hide (HE7.out.trans hb7)
                      clear hb7 HE7 HC
                      by_cases heq : 1 + Bq = bb
                      · have hez : ((1 : Int) + (Bq : Int)) = (bb : Int) := by omega
                        rw [decide_eq_true heq] at htk
                        have HYES2 := hide (HYES.out htk)
                        clear HNO HYES htk heq
                        go_wp2_with fail
                        go_roundw
                        case rel => exact ⟨j + 1, p, by omega, by go_num, rfl, HYES2, HE8⟩
                        case measure => simp [intOf]; omega
                      · have hez : (((1 : Int) + (Bq : Int)) == (bb : Int)) = false := by rw [beq_eq_false_iff_ne]; omega
                        have hez2 : ¬ ((1 : Int) + (Bq : Int)) = (bb : Int) := by omega
                        rw [decide_eq_false heq] at htk
                        have HNO2 := hide (HNO.out htk)
                        clear HNO HYES htk heq
                        go_wp2_with fail
                        go_roundw
                        case rel => exact ⟨j + 1, f, by omega, by go_num, rfl, HNO2, HE8⟩
                        case measure => simp [intOf]; omega
                  · clear hcR
                    obtain ⟨p, rfl, hfi⟩ := HF.out.some hf0
                    have hfz : ¬ ((p : Int) < 0) := by omega
                    have hfz2 : (0 : Int) ≤ (p : Int) := by omega
                    have HV9 := hide (show V = (zs ++ [(p : Int)]) ++ pickR Q (used ++ [p]) from by rw [HV.out, pickR_yes (HPK.out.trans hfi)]; simp)
                    have hp40 := HRL.out p (List.mem_of_find?_eq_some hfi)
                    have HX := hide (HW2.out.ext HE3.out)
                    have hn8 : n ≤ 8 := by omega
                    have HL1 := hide HXE.out
                    have hwr : wx.heap.size ≤ wr.heap.size := HX.out.1.2.1.size
                    obtain rfl := HUU.out
                    clear hfi HF
                    go_wp2_with (first | (at_builtin; refine wpList_append_own_at _ rfl (.tmp 93) (.tmp 95) 31 rfl wx.heap.size 3 i0 (.int .i64 0) 1 8 Tryz.underlying31 hi hz0 hz1 hz2 rfl (by decide) (.slice (some ⟨gU, 0, none⟩) n cu) n (encI (castZ used)) rfl (own_ext HX.out.2.1 ((Ext.refl _).alloc _)) ⟨wr.heap.size, 0, none⟩ 1 1 [.int .i64 (p : Int)] rfl rfl (news_new wr #[.int .i64 (p : Int)] 3) (enc_one _) (by unfold maxLen; omega) (by omega) (by first | (simp; done) | (simp; omega)) ?_; intro v5 w5 hown5 hgrow5 hnil5 hloc5; have HX5 := hide (TwoR.snd HX.out hown5 hgrow5 hloc5); have hz5 := HX5.out.1.2.1.size) | (at_builtin; refine wpList_append_own_at _ rfl (.tmp 97) (.tmp 99) 31 rfl (w.heap.size + 1) 3 i0 (.int .i64 0) 1 8 Tryz.underlying31 hi hz0 hz1 hz2 rfl (by decide) u5 y (encI zs) rfl (own_ext HX5.out.1.1 ((Ext.refl _).alloc _)) ⟨w5.heap.size, 0, none⟩ 1 1 [.int .i64 (p : Int)] rfl rfl (news_new w5 #[.int .i64 (p : Int)] 3) (enc_one _) (by unfold maxLen; omega) (by omega) (by first | (simp; done) | (simp; omega)) ?_; intro v6 w6 hown6 hgrow6 hnil6 hloc6; have HX6 := hide (TwoR.fst HX5.out hown6 hgrow6 hloc6)))
                    have HN5 := hide (show v5 ≠ .slice none 0 0 from fun e => by have h := (hnil5.1 e).1; cases h)
                    have HX9 := hide (show TwoR wx w6 (w.heap.size + 1) v6 (y + 1) (encI (zs ++ [(p : Int)])) v5 (n + 1) (encI (castZ (used ++ [p]))) from by rw [castZ_snoc, encI_snoc]; exact HX6.out)
                    clear hown5 hown6 hgrow5 hgrow6 hnil5 hnil6 hloc5 hloc6 HX HX5 HX6
                    go_roundw
                    case rel => exact ⟨y + 1, used ++ [p], n + 1, zs ++ [(p : Int)], by omega, by go_num, by omega, hide (by simp [HN.out]), hide (by rw [HQ.out]; exact HV9.out), HN5, HX9⟩
                    case measure => simp [intOf]; omega
                · obtain rfl : j = r.length := by omega
                  by_cases hf0 : f < 0
                  · obtain ⟨rfl, hfi⟩ := HF.out.none hf0
                    have HV9 := hide (show V = (zs ++ [(-1 : Int)]) ++ pickR Q used from by rw [HV.out, pickR_none (HPK.out.trans hfi)]; simp)
                    have HX := hide (HW2.out.ext HE3.out)
                    have hwr : wx.heap.size ≤ wr.heap.size := HX.out.1.2.1.size
                    obtain rfl := HUU.out
                    clear hfi HF
                    go_wp2_with (at_builtin; refine wpList_append_own_at _ rfl (.tmp 97) (.tmp 99) 31 rfl (w.heap.size + 1) 3 i0 (.int .i64 0) 1 8 Tryz.underlying31 hi hz0 hz1 hz2 rfl (by decide) u5 y (encI zs) rfl (own_ext HX.out.1.1 ((Ext.refl _).alloc _)) ⟨wr.heap.size, 0, none⟩ 1 1 [.int .i64 (-1)] rfl rfl (news_new wr #[.int .i64 (-1)] 3) (enc_one _) (by unfold maxLen; omega) (by omega) (by first | (simp; done) | (simp; omega)) ?_; intro v6 w6 hown6 hgrow6 hnil6 hloc6; have HX6 := hide (TwoR.fst HX.out hown6 hgrow6 hloc6))
                    have HX9 := hide (show TwoR wx w6 (w.heap.size + 1) v6 (y + 1) (encI (zs ++ [(-1 : Int)])) (.slice (some ⟨gU, 0, none⟩) n cu) n (encI (castZ used)) from by rw [encI_snoc]; exact HX6.out)
                    clear hown6 hgrow6 hnil6 hloc6 HX HX6
                    go_roundw
                    case rel => exact ⟨y + 1, used, n, zs ++ [(-1 : Int)], by omega, by go_num, by omega, HN, hide (by rw [HQ.out]; exact HV9.out), hide (by intro e; cases e), HX9⟩
                    case measure => simp [intOf]; omega
                  · obtain ⟨p, rfl, hfi⟩ := HF.out.some hf0
                    have hfz : ¬ ((p : Int) < 0) := by omega
                    have hfz2 : (0 : Int) ≤ (p : Int) := by omega
                    have HV9 := hide (show V = (zs ++ [(p : Int)]) ++ pickR Q (used ++ [p]) from by rw [HV.out, pickR_yes (HPK.out.trans hfi)]; simp)
                    have hp40 := HRL.out p (List.mem_of_find?_eq_some hfi)
                    have HX := hide (HW2.out.ext HE3.out)
                    have hn8 : n ≤ 8 := by omega
                    have HL1 := hide HXE.out
                    have hwr : wx.heap.size ≤ wr.heap.size := HX.out.1.2.1.size
                    obtain rfl := HUU.out
                    clear hfi HF
                    go_wp2_with (first | (at_builtin; refine wpList_append_own_at _ rfl (.tmp 93) (.tmp 95) 31 rfl wx.heap.size 3 i0 (.int .i64 0) 1 8 Tryz.underlying31 hi hz0 hz1 hz2 rfl (by decide) (.slice (some ⟨gU, 0, none⟩) n cu) n (encI (castZ used)) rfl (own_ext HX.out.2.1 ((Ext.refl _).alloc _)) ⟨wr.heap.size, 0, none⟩ 1 1 [.int .i64 (p : Int)] rfl rfl (news_new wr #[.int .i64 (p : Int)] 3) (enc_one _) (by unfold maxLen; omega) (by omega) (by first | (simp; done) | (simp; omega)) ?_; intro v5 w5 hown5 hgrow5 hnil5 hloc5; have HX5 := hide (TwoR.snd HX.out hown5 hgrow5 hloc5); have hz5 := HX5.out.1.2.1.size) | (at_builtin; refine wpList_append_own_at _ rfl (.tmp 97) (.tmp 99) 31 rfl (w.heap.size + 1) 3 i0 (.int .i64 0) 1 8 Tryz.underlying31 hi hz0 hz1 hz2 rfl (by decide) u5 y (encI zs) rfl (own_ext HX5.out.1.1 ((Ext.refl _).alloc _)) ⟨w5.heap.size, 0, none⟩ 1 1 [.int .i64 (p : Int)] rfl rfl (news_new w5 #[.int .i64 (p : Int)] 3) (enc_one _) (by unfold maxLen; omega) (by omega) (by first | (simp; done) | (simp; omega)) ?_; intro v6 w6 hown6 hgrow6 hnil6 hloc6; have HX6 := hide (TwoR.fst HX5.out hown6 hgrow6 hloc6)))
                    have HN5 := hide (show v5 ≠ .slice none 0 0 from fun e => by have h := (hnil5.1 e).1; cases h)
                    have HX9 := hide (show TwoR wx w6 (w.heap.size + 1) v6 (y + 1) (encI (zs ++ [(p : Int)])) v5 (n + 1) (encI (castZ (used ++ [p]))) from by rw [castZ_snoc, encI_snoc]; exact HX6.out)
                    clear hown5 hown6 hgrow5 hgrow6 hnil5 hnil6 hloc5 hloc6 HX HX5 HX6
                    go_roundw
                    case rel => exact ⟨y + 1, used ++ [p], n + 1, zs ++ [(p : Int)], by omega, by go_num, by omega, hide (by simp [HN.out]), hide (by rw [HQ.out]; exact HV9.out), HN5, HX9⟩
                    case measure => simp [intOf]; omega
            · obtain rfl : y = k := by omega
              have hV := HV.out
              rw [List.drop_of_length_le (by rw [HPM.out]; omega), pickR, List.append_nil] at hV
              have HVZ := hide hV
              have HEE := hide (HW.out.1.ext0 HEX.out (by omega))
              obtain ⟨Ar, cr, rfl, _⟩ := own_slice HW.out.1.1
              have HO9 := hide HW.out.1.1
              have hzl : zs.length = y := by have := HO9.out.1; simpa [encI] using this
              have HZL := hide hzl
              clear hV HW hzl
              go_wp2_with fail
              go_ret
              have h9 := HO9.out
              obtain rfl := HVZ.out
              rw [HZL.out]
              exact ⟨Ar, cr, rfl, own_mono h9 (by omega), HEE.out⟩
end Go.Proofs.YtabgcpoaepafjaaGreat
