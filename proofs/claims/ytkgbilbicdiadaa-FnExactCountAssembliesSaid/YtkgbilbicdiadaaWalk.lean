/- Walks of 'beside' and of its fellows in the reference. No condition but a window that is one and a dart of it. -/
import Derived.Test.YtkgbilbicdiadaaAroundS
set_option linter.unusedSimpArgs false
set_option linter.unusedVariables false
namespace Go.Proofs.Ytkgbilbicdiadaa
open Go.RowKit

theorem idx_ne {l : List Nat} {d k : Nat} (h : k < l.idxOf d) (hk : k < l.length) : l[k] ≠ d := by
  have := List.not_of_lt_findIdx (p := (· == d)) (xs := l) (i := k) (by simpa [List.idxOf] using h)
  simpa using this
theorem idx_at {l : List Nat} {d : Nat} (hm : d ∈ l) : ∃ h : l.idxOf d < l.length, l[l.idxOf d] = d := ⟨List.idxOf_lt_length_of_mem hm, List.getElem_idxOf _⟩
theorem IndexInt_any (l : List Nat) (A : Option Addr) (c d : Nat) (w : World) (hl : l.length ≤ 1048576) (hr : Rds w 1 A l.length (encN l)) (hm : d ∈ l) :
    Calls Try.prog 177 #[.slice A l.length c, .int .i64 (d : Nat)] w fun e w' => e = .returned (.int .i64 (l.idxOf d : Nat)) ∧ w = w' := by
  have HR := hide hr
  obtain ⟨hi, hid⟩ := idx_at hm
  have HD := hide hid
  clear hr hid hm
  go_enter Try.func177, Try.ntmps177
  go_wp2_with fail
  go_loopw [8] (fun i wr => ∃ k : Nat, k ≤ l.idxOf d ∧ i = .int .i64 k ∧ wr = w) (fun i _ => l.length - (intOf i).toNat)
  case atStart => exact ⟨0, Nat.zero_le _, rfl, rfl⟩
  case round =>
    obtain ⟨k, hk, rfl, rfl⟩ := hrel
    have hlt : k < l.length := by omega
    obtain ⟨b, off, rfl, hb, e0⟩ := RN.at_ HR.out rfl hlt
    have x2 : (k : Int) < (l.length : Int) := by omega
    obtain ⟨v, hv⟩ : ∃ v, l[k] = v := ⟨_, rfl⟩
    rw [hv] at e0
    by_cases hkd : k = l.idxOf d
    · have hvd : v = d := by rw [← hv]; simp only [hkd]; exact HD.out
      have HK := hide hkd
      subst hvd
      clear hv hkd hk
      go_wp2_with fail
      go_ret
      exact ⟨ret_int (by rw [← HK.out]), rfl⟩
    · have hne : v ≠ d := by rw [← hv]; exact idx_ne (by omega) hlt
      have h1 : (d == v) = false := by simp; omega
      have h2 : ((d : Int) == (v : Int)) = false := by simp; omega
      have hk2 : k + 1 ≤ l.idxOf d := by omega
      have HK := hide hk2
      clear hv hkd hk hne hk2
      go_wp2_with fail
      go_roundw
      case rel => exact ⟨k + 1, HK.out, by go_num, trivial⟩
      case measure => simp [intOf]; omega
theorem stepIn_get {l : List Nat} {d : Nat} (hm : d ∈ l) (y : Int) : ∃ q : Nat, q < l.length ∧ (((l.idxOf d : Nat) : Int) + y + l.length) % l.length = (q : Int) ∧ l[q]? = some (stepIn l d y) := by
  have h := step_at hm y
  obtain ⟨q, hq⟩ := Int.eq_ofNat_of_zero_le h.2.1
  refine ⟨q, by omega, hq, ?_⟩
  unfold stepIn
  rw [hq, Int.toNat_natCast]
  have : q < l.length := by omega
  simp [this]
set_option maxRecDepth 20000 in
set_option maxHeartbeats 4000000 in
theorem beside_any (N E : List P2) (A B : Option Addr) (c c' d : Nat) (y : Int) (w : World) (hw : WR w N E A B c c') (hok : WinOk N E) (hd : d < 2 * E.length) (hy : y = 1 ∨ y = -1) :
    Calls Try.prog 166 #[.agg #[.slice A N.length c, .slice B E.length c'], .int .i64 (d : Nat), .int .i64 y] w fun e w' => e = .returned (.int .i64 (besideN N E d y : Nat)) ∧ Ext w w' := by
  obtain ⟨k, hk⟩ := Int.eq_ofNat_of_zero_le (hok.ends hd).1
  have hkN : k < N.length := by have := (hok.ends hd).2.1; omega
  have hmem : d ∈ aroundL N E (k : Nat) := around_mem.2 ⟨hd, hk⟩
  have hpos : 0 < (aroundL N E (k : Nat)).length := List.length_pos_of_mem hmem
  have hl12 : (aroundL N E (k : Nat)).length ≤ 12 := by rw [around_length]; exact hok.degree _ _ (Nat.le_refl _)
  have HC := fun (W : World) (hE : Ext w W) => dartFrom_any N E A B c c' d W (hw.ext hE) hd
  have HA := fun (W : World) (hE : Ext w W) => around_any N E A B c c' k W (hw.ext hE) hok hkN hpos
  have HI := fun (W : World) (g c2 : Nat) (h : Rds W 1 (some ⟨g, 0, none⟩) (aroundL N E (k : Nat)).length (encN (aroundL N E (k : Nat)))) => IndexInt_any (aroundL N E (k : Nat)) (some ⟨g, 0, none⟩) c2 d W (by omega) h hmem
  obtain ⟨q, hq, hqe, hqg⟩ := stepIn_get hmem y
  have HV : Hid (besideN N E d y = stepIn (aroundL N E (k : Nat)) d y) := hide (by unfold besideN; rw [hk])
  rw [hk] at HC
  obtain ⟨L, hL⟩ : ∃ L, aroundL N E (k : Nat) = L := ⟨_, rfl⟩
  have HVV := hide (show besideN N E d y = stepIn L d y by rw [HV.out, hL])
  rw [hL] at HA HI hpos hl12 hq hqe hqg hmem
  have hix : L.idxOf d < L.length := List.idxOf_lt_length_of_mem hmem
  obtain ⟨u, hu⟩ : ∃ u, stepIn L d y = u := ⟨_, rfl⟩
  rw [hu] at hqg
  have HU := hide hu
  obtain ⟨x, hx⟩ : ∃ x, L.idxOf d = x := ⟨_, rfl⟩
  rw [hx] at HI hqe hix
  obtain ⟨n, hn⟩ : ∃ n, L.length = n := ⟨_, rfl⟩
  rw [hn] at HA HI hpos hl12 hq hqe hix
  have HN := hide hn
  have HC := hide HC
  have HA := hide HA
  have HI := hide HI
  have HQG := hide hqg
  clear hw hok hL HV hmem hk hu hx hqg hn
  have hmod : ((x : Int) + y + n).tmod n = (q : Int) := by
    rw [Int.tmod_eq_emod_of_nonneg (by rcases hy with rfl | rfl <;> omega)]
    exact hqe
  have w1 : IntKind.i64.wrap ((x : Int) + y) = (x : Int) + y := by rw [IntKind.wrap_i64]; rcases hy with rfl | rfl <;> omega
  have w2 : IntKind.i64.wrap ((x : Int) + y + n) = (x : Int) + y + n := by rw [IntKind.wrap_i64]; rcases hy with rfl | rfl <;> omega
  have n0 : ¬ (n : Int) = 0 := by omega
  have n1 : (q : Int) < (n : Int) := by omega
  have n2 : ¬ n = 0 := by omega
  clear hqe hy
  
  go_enter Try.func166, Try.ntmps166
  go_wp2_with fail
  obtain ⟨w0, hw⟩ : ∃ w1, w1 = w.alloc (Obj.cells #[Value.slice A N.length c, Value.slice B E.length c'] 27) := ⟨_, rfl⟩; rw [← hw]; have kT : Tr [(w.heap.size, [.slice A N.length c, .slice B E.length c'])] w w0 := (by rw [hw]; exact ⟨by (first | (simp [Bx, CellsAt, go_sem, *]; done) | (simp [Bx, CellsAt, go_sem, *]; omega)), by (repeat (first | exact kE | exact Ext.refl _ | apply Ext.alloc | apply Ext.drewN | apply Ext.drew | apply Ext.set0 | apply Ext.set1 | apply Ext.set2 | apply Ext.set3 | (refine Ext.setk ?_ (by omega) _) | (apply Ext.snoc; assumption)))⟩); have HT := hide kT; clear hw kT; have kT := HT.out; simp only [Tr, Bx, CellsAt, Nat.reduceAdd, Nat.zero_add, and_true] at kT; obtain ⟨⟨kz0, kf0, kc0_0, kc0_1⟩, kE⟩ := kT
  have HW0 := hide kE
  go_region_held3 (fun w' => (∀ (q o : Nat), q < w0.heap.size → w'.cell? ⟨q, o, none⟩ = w0.cell? ⟨q, o, none⟩) ∧ Ext w0 w') ((apply ExtS; repeat (first | exact kE | exact Ext.refl _ | apply Ext.alloc | apply Ext.drewN | apply Ext.drew | apply Ext.set0 | apply Ext.set1 | apply Ext.set2 | apply Ext.set3 | (refine Ext.setk ?_ (by omega) _) | (apply Ext.snoc; assumption)))) ((first | (go_at_call 152; refine (HC.out _ (HW0.out.trans (by clear kE; repeat (first | exact kE | exact Ext.refl _ | apply Ext.alloc | apply Ext.drewN | apply Ext.drew | apply Ext.set0 | apply Ext.set1 | apply Ext.set2 | apply Ext.set3 | (refine Ext.setk ?_ (by omega) _) | (apply Ext.snoc; assumption))))).mono ?_; rintro e w3 ⟨rfl, hb3⟩)  |  (go_at_call 176; refine (HA.out _ (HW0.out.trans (by clear kE; repeat (first | exact kE | exact Ext.refl _ | apply Ext.alloc | apply Ext.drewN | apply Ext.drew | apply Ext.set0 | apply Ext.set1 | apply Ext.set2 | apply Ext.set3 | (refine Ext.setk ?_ (by omega) _) | (apply Ext.snoc; assumption))))).mono ?_; rintro e w5 ⟨g, c2, rfl, hown, hb5⟩)))
  have cq := own_cellN hown HN.out HQG.out
  have HIX := HI.out w5 g c2 (Rds.of_own hown)
  have HE5 := hide (HW0.out.trans (((Ext.refl w0).drew.trans hb3).trans hb5))
  clear hown hb3 hb5
  go_wp2_with (go_at_call 177; refine HIX.mono ?_; rintro e w' ⟨rfl, rfl⟩)
  go_ret
  exact ⟨ret_int (by rw [HVV.out, HU.out]), HE5.out⟩
set_option maxRecDepth 20000 in
set_option maxHeartbeats 4000000 in
theorem l05Step_any (N E : List P2) (A B : Option Addr) (c c' d : Nat) (y : Int) (w : World) (hw : WR w N E A B c c') (hok : WinOk N E) (hd : d < 2 * E.length) (hy : y = 1 ∨ y = -1) :
    Calls Try.prog 171 #[.agg #[.slice A N.length c, .slice B E.length c'], .int .i64 (d : Nat), .int .i64 y] w fun e w' => e = .returned (.int .i64 (besideN N E d y : Nat)) ∧ Ext w w' := by
  obtain ⟨k, hk⟩ := Int.eq_ofNat_of_zero_le (hok.ends hd).1
  have hkN : k < N.length := by have := (hok.ends hd).2.1; omega
  have hmem : d ∈ aroundL N E (k : Nat) := around_mem.2 ⟨hd, hk⟩
  have hpos : 0 < (aroundL N E (k : Nat)).length := List.length_pos_of_mem hmem
  have hl12 : (aroundL N E (k : Nat)).length ≤ 12 := by rw [around_length]; exact hok.degree _ _ (Nat.le_refl _)
  have HC := fun (W : World) (hE : Ext w W) => l05Ends_any N E A B c c' d W (hw.ext hE) hd
  have HA := fun (W : World) (hE : Ext w W) => l05Around_any N E A B c c' k W (hw.ext hE) hok hkN hpos
  obtain ⟨q, hq, hqe, hqg⟩ := stepIn_get hmem y
  have HV : Hid (besideN N E d y = stepIn (aroundL N E (k : Nat)) d y) := hide (by unfold besideN; rw [hk])
  rw [hk] at HC
  obtain ⟨t, ht⟩ : ∃ t, fromN E (twin d) = t := ⟨_, rfl⟩
  rw [ht] at HC
  obtain ⟨L, hL⟩ : ∃ L, aroundL N E (k : Nat) = L := ⟨_, rfl⟩
  have HVV := hide (show besideN N E d y = stepIn L d y by rw [HV.out, hL])
  rw [hL] at HA hpos hl12 hq hqe hqg hmem
  obtain ⟨hix0, hid⟩ := idx_at hmem
  have HD := hide (show ∀ j (h : j < L.length), j < L.idxOf d → L[j] ≠ d from fun j h h2 => idx_ne h2 h)
  have HD2 := hide (show ∀ h : L.idxOf d < L.length, L[L.idxOf d] = d from fun _ => hid)
  have hix : L.idxOf d < L.length := hix0
  obtain ⟨u, hu⟩ : ∃ u, stepIn L d y = u := ⟨_, rfl⟩
  rw [hu] at hqg
  have HU := hide hu
  clear hid hix0
  obtain ⟨x, hx⟩ : ∃ x, L.idxOf d = x := ⟨_, rfl⟩
  rw [hx] at hqe hix
  have HX := hide hx
  obtain ⟨n, hn⟩ : ∃ n, L.length = n := ⟨_, rfl⟩
  rw [hn] at HA hpos hl12 hq hqe hix
  have HN := hide hn
  have HC := hide HC
  have HA := hide HA
  have HQG := hide hqg
  clear hw hok hL HV hmem hk hu hx hqg hn ht
  have hmod : ((x : Int) + y + n).tmod n = (q : Int) := by
    rw [Int.tmod_eq_emod_of_nonneg (by rcases hy with rfl | rfl <;> omega)]
    exact hqe
  have w1 : IntKind.i64.wrap ((x : Int) + y) = (x : Int) + y := by rw [IntKind.wrap_i64]; rcases hy with rfl | rfl <;> omega
  have w2 : IntKind.i64.wrap ((x : Int) + y + n) = (x : Int) + y + n := by rw [IntKind.wrap_i64]; rcases hy with rfl | rfl <;> omega
  have n0 : ¬ (n : Int) = 0 := by omega
  have n1 : (q : Int) < (n : Int) := by omega
  have n2 : ¬ n = 0 := by omega
  clear hqe hy
  
  go_enter Try.func171, Try.ntmps171
  go_wp2_with fail
  obtain ⟨w0, hw⟩ : ∃ w1, w1 = w.alloc (Obj.cells #[Value.slice A N.length c, Value.slice B E.length c'] 27) := ⟨_, rfl⟩; rw [← hw]; have kT : Tr [(w.heap.size, [.slice A N.length c, .slice B E.length c'])] w w0 := (by rw [hw]; exact ⟨by (first | (simp [Bx, CellsAt, go_sem, *]; done) | (simp [Bx, CellsAt, go_sem, *]; omega)), by (repeat (first | exact kE | exact Ext.refl _ | apply Ext.alloc | apply Ext.drewN | apply Ext.drew | apply Ext.set0 | apply Ext.set1 | apply Ext.set2 | apply Ext.set3 | (refine Ext.setk ?_ (by omega) _) | (apply Ext.snoc; assumption)))⟩); have HT := hide kT; clear hw kT; have kT := HT.out; simp only [Tr, Bx, CellsAt, Nat.reduceAdd, Nat.zero_add, and_true] at kT; obtain ⟨⟨kz0, kf0, kc0_0, kc0_1⟩, kE⟩ := kT
  refine (HC.out w0 kE).mono ?_; rintro e w3 ⟨rfl, hb⟩; have HT := hide (HT.out.ext hb); have Hw3 := hide hb; clear hb; clear kz0 kf0 kc0_0 kc0_1 kE; have kT := HT.out; simp only [Tr, Bx, CellsAt, Nat.reduceAdd, Nat.zero_add, and_true] at kT; obtain ⟨⟨kz0, kf0, kc0_0, kc0_1⟩, kE⟩ := kT
  go_wp2_with fail
  refine (HA.out _ kE).mono ?_
  rintro e w5 ⟨g, c2, rfl, hown, hb5⟩
  have HO := hide hown
  have HE5 := hide (kE.trans hb5)
  clear hown hb5
  clear kz0 kf0 kc0_0 kc0_1 kE
  go_wp2_with fail
  go_loopw [10] (fun i wr => ∃ j : Nat, j ≤ x ∧ i = .int .i64 j ∧ wr = w5) (fun i _ => n - (intOf i).toNat)
  case atStart => exact ⟨0, Nat.zero_le _, rfl, rfl⟩
  case round =>
    obtain ⟨j, hj, rfl, rfl⟩ := hrel
    have hjn : j < n := by omega
    have hjL : j < L.length := by rw [HN.out]; exact hjn
    have cj := own_cellN (k := j) (v := L[j]) HO.out HN.out (by simp)
    have x2 : (j : Int) < (n : Int) := by omega
    obtain ⟨v, hv⟩ : ∃ v, L[j] = v := ⟨_, rfl⟩
    rw [hv] at cj
    by_cases hjx : j = x
    · have hvd : v = d := by rw [← hv]; have := HD2.out (by rw [HX.out, HN.out]; exact hix); simp only [HX.out] at this; simp only [hjx]; exact this
      subst hvd
      subst hjx
      clear hv hj
      have cq := own_cellN HO.out HN.out HQG.out
      go_wp2_with fail
      go_ret
      exact ⟨ret_int (by rw [HVV.out, HU.out]), HE5.out⟩
    · have hne : v ≠ d := by rw [← hv]; exact HD.out j hjL (by rw [HX.out]; omega)
      have h1 : (v == d) = false := by simp; omega
      have h2 : ((v : Int) == (d : Int)) = false := by simp; omega
      have hk2 : j + 1 ≤ x := by omega
      have HK := hide hk2
      clear hv hjx hj hne hk2 hjL
      go_wp2_with fail
      go_roundw
      case rel => exact ⟨j + 1, HK.out, by go_num, trivial⟩
      case measure => simp [intOf]; omega
theorem l06Next_any (N E : List P2) (A B : Option Addr) (c c' d : Nat) (w : World) (hw : WR w N E A B c c') (hok : WinOk N E) (hd : d < 2 * E.length) :
    Calls Try.prog 153 #[.agg #[.slice A N.length c, .slice B E.length c'], .int .i64 (d : Nat)] w fun e w' => e = .returned (.int .i64 (nextN N E d : Nat)) ∧ Ext w w' := by
  have hm := hok.m
  have xd := xor_twin d (by omega)
  have HC := fun (W : World) (hE : Ext w W) => l05Step_any N E A B c c' (twin d) (-1) W (hw.ext hE) hok (twin_lt hd) (.inr rfl)
  have HC := hide HC
  have HN := hide (show besideN N E (twin d) (-1) = nextN N E d from rfl)
  clear hw hok
  generalize besideN N E (twin d) (-1) = u at HC HN
  generalize twin d = td at *
  go_enter Try.func153, Try.ntmps153
  go_wp2_with (go_at_call 171; refine (HC.out _ (by repeat (first | exact kE | exact Ext.refl _ | apply Ext.alloc | apply Ext.drewN | apply Ext.drew | apply Ext.set0 | apply Ext.set1 | apply Ext.set2 | apply Ext.set3 | (refine Ext.setk ?_ (by omega) _) | (apply Ext.snoc; assumption)))).mono ?_; rintro e w3 ⟨rfl, hb3⟩)
  go_ret
  exact ⟨ret_int (by rw [HN.out]), by repeat (first | exact kE | exact Ext.refl _ | apply Ext.alloc | apply Ext.drewN | apply Ext.drew | apply Ext.set0 | apply Ext.set1 | apply Ext.set2 | apply Ext.set3 | (refine Ext.setk ?_ (by omega) _) | (apply Ext.snoc; assumption))⟩
end Go.Proofs.Ytkgbilbicdiadaa
namespace Go.Proofs.Ytkgbilbicdiadaa
open Go.RowKit

def lenOf : Value → Nat
  | .slice _ n _ => n
  | _ => 0
set_option maxRecDepth 20000 in
set_option maxHeartbeats 4000000 in
theorem walk_any (N E : List P2) (A B : Option Addr) (c c' d : Nat) (w : World) (hw : WR w N E A B c c') (hok : WinOk N E) (hd : d < 2 * E.length) :
    Calls Try.prog 140 #[.agg #[.slice A N.length c, .slice B E.length c'], .int .i64 (d : Nat)] w fun e w' => ∃ g c2, e = .returned (.slice (some ⟨g, 0, none⟩) (walkL (nextN N E) (2 * E.length) d).length c2) ∧ w'.ownsRow w.heap.size 3 1 (.slice (some ⟨g, 0, none⟩) (walkL (nextN N E) (2 * E.length) d).length c2) (walkL (nextN N E) (2 * E.length) d).length (encN (walkL (nextN N E) (2 * E.length) d)) ∧ Ext w w' := by
  obtain ⟨i0, hi, hz0, hz1, hz2⟩ := info_parts int_info
  obtain ⟨p, hp1, hp2, hp3, hp4, hp5⟩ := (next_inj N E).walk hd
  have hlen : (walkL (nextN N E) (2 * E.length) d).length = p := by rw [hp5]; simp
  have hm := hok.m
  have HW := hide hw
  have HK := hide hok
  have hlt : ∀ k, it (nextN N E) k d < 2 * E.length := (next_inj N E).it_lt hd
  have HLT := hide hlt
  have HP3 := hide hp3
  have HP4 := hide hp4
  have HP5 := hide hp5
  rw [hlen]
  clear hw hok hlt hp3 hp4 hp5 hlen
  have HC := hide (show ∀ (W : World) (k : Nat), Ext w W → Calls Try.prog 166 #[.agg #[.slice A N.length c, .slice B E.length c'], .int .i64 (twin (it (nextN N E) k d) : Nat), .int .i64 (-1)] W fun e w' => e = .returned (.int .i64 (it (nextN N E) (k + 1) d : Nat)) ∧ Ext W w' from fun W k hE => by have := beside_any N E A B c c' (twin (it (nextN N E) k d)) (-1) W (HW.out.ext hE) HK.out (twin_lt (HLT.out k)) (.inr rfl); exact this)
  have hx : ∀ k, bits .xor .i64 ((it (nextN N E) k d : Nat) : Int) 1 = ((twin (it (nextN N E) k d) : Nat) : Int) := fun k => xor_twin _ (by have := HLT.out k; omega)
  have hx0 : bits .xor .i64 ((d : Nat) : Int) 1 = ((twin d : Nat) : Int) := xor_twin _ (by omega)
  have HX := hide hx
  clear hx
  
  go_enter Try.func140, Try.ntmps140
  go_wp2_with (go_at_call 166; refine (HC.out _ 0 (by repeat (first | exact kE | exact Ext.refl _ | apply Ext.alloc | apply Ext.drewN | apply Ext.drew | apply Ext.set0 | apply Ext.set1 | apply Ext.set2 | apply Ext.set3 | (refine Ext.setk ?_ (by omega) _) | (apply Ext.snoc; assumption)))).mono ?_; rintro e w3 ⟨rfl, hb3⟩)
  obtain ⟨w0, hw⟩ : ∃ w1, w1 = w.alloc (Obj.cells #[Value.slice A N.length c, Value.slice B E.length c'] 27) := ⟨_, rfl⟩
  rw [← hw] at hb3
  have hsz0 : w0.heap.size = w.heap.size + 1 := by rw [hw]; simp
  have HT := hide (show Tr [(w.heap.size, [.slice A N.length c, .slice B E.length c'])] w w0 from by rw [hw]; exact ⟨by simp [Bx, CellsAt, go_sem, *], by repeat (first | exact kE | exact Ext.refl _ | apply Ext.alloc | apply Ext.drewN | apply Ext.drew | apply Ext.set0 | apply Ext.set1 | apply Ext.set2 | apply Ext.set3 | (refine Ext.setk ?_ (by omega) _) | (apply Ext.snoc; assumption))⟩)
  clear hw
  rw [← hsz0]
  have HSZ := hide hsz0
  clear hsz0
  have kT := HT.out; simp only [Tr, Bx, CellsAt, Nat.reduceAdd, Nat.zero_add, and_true] at kT; obtain ⟨⟨kz0, kf0, kc0_0, kc0_1⟩, kE⟩ := kT
  have HW0 := hide kE
  have HT0 := HT
  clear HT
  clear kz0 kf0 kc0_0 kc0_1 kE
  have HO3 := hide (own_ext (World.ownsRow_lit (e := 3) (size := 1) w0 #[.int .i64 (d : Nat)] 1 (Nat.le_refl _) (by unfold maxLen; omega) rfl) hb3)
  have HE3 := hide ((((Ext.refl w0).alloc _).trans hb3))
  clear hb3
  go_loopw [5, 6] (fun v i wr => ∃ k : Nat, 1 ≤ k ∧ k ≤ p ∧ i = .int .i64 (it (nextN N E) k d : Nat) ∧ Hid (wr.ownsRow w0.heap.size 3 1 v k (encN ((List.range k).map fun j => it (nextN N E) j d))) ∧ Hid (Ext w0 wr)) (fun v _ _ => p - lenOf v)
  case atStart => exact ⟨1, Nat.le_refl _, hp1, rfl, HO3, HE3⟩
  case round =>
    clear HO3 HE3 hx0
    obtain ⟨k, hk1, hk2, rfl, HO, HE⟩ := hrel
    have HT := hide (HT0.out.ext HE.out)
    have kT := HT.out; simp only [Tr, Bx, CellsAt, Nat.reduceAdd, Nat.zero_add, and_true] at kT; obtain ⟨⟨kz0, kf0, kc0_0, kc0_1⟩, kE⟩ := kT
    have xk := HX.out k
    have hl := HLT.out k
    have HCk := hide (HC.out · k)
    by_cases hkp : k = p
    · subst hkp
      have HLL := hide HP3.out
      have e3 := HP3.out
      obtain ⟨A0, c2, rfl, hc2, hA0, hA1⟩ := own_slice HO.out
      cases A0 with
      | none => exact absurd (hA0 rfl) (by omega)
      | some a0 =>
        obtain ⟨g, rfl, hgB, hgl, _⟩ := hA1 a0 rfl
        clear hA0 hA1
        rw [e3]
        clear e3 xk hl
        go_wp2_with fail
        go_ret
        exact ⟨g, c2, rfl, by rw [HP5.out]; exact own_mono HO.out HW0.out.size, HW0.out.trans HE.out⟩
    · have hne := HP4.out k hk1 (by omega)
      have hsz2 := HE.out.size
      have HD := hide (show encN ((List.range (k + 1)).map fun j => it (nextN N E) j d) = encN ((List.range k).map fun j => it (nextN N E) j d) ++ [.int .i64 (it (nextN N E) k d : Nat)] by rw [List.range_succ, List.map_append, encN_append]; rfl)
      have HLk := hide (show ((List.range k).map fun j => it (nextN N E) j d).length = k by simp)
      obtain ⟨u, hu⟩ : ∃ u, it (nextN N E) k d = u := ⟨_, rfl⟩
      rw [hu] at xk hl hne HD HCk ⊢
      have n1 : (u != d) = true := by simp; exact hne
      have n2 : ((u : Int) != (d : Int)) = true := by simp; omega
      have HU := hide hu
      clear hu hne
      obtain ⟨A0, c2, rfl, hc2, hA0, hA1⟩ := own_slice HO.out
      clear hA0 hA1
      go_wp2_with (first | (at_builtin; refine wpList_append_own _ rfl _ _ 29 rfl w0.heap.size 3 i0 (.int .i64 0) 1 8 Try.underlying29 hi hz0 hz1 hz2 rfl (by decide) (.slice A0 k c2) k (encN ((List.range k).map fun j => it (nextN N E) j d)) rfl (own_ext HO.out ((Ext.refl _).alloc _)) ⟨wr.heap.size, 0, none⟩ 1 1 [.int .i64 (u : Int)] rfl rfl (news_new wr #[.int .i64 (u : Int)] 3) (one_cell _) (by unfold maxLen; omega) (by omega) (by first | (simp; done) | (simp; omega)) ?_; intro v' w4 hown4 hgrow4 hnil; have E4 := hide (Ext.grown (HE.out.alloc _) hgrow4 (own_base HO.out (Nat.le_refl _))); have HT4 := hide (HT0.out.ext E4.out); have HO4 := hide hown4; clear hown4 hgrow4 hnil HT kz0 kf0 kc0_0 kc0_1 kE; have HT := HT4; clear HT4; have kT := HT.out; simp only [Tr, Bx, CellsAt, Nat.reduceAdd, Nat.zero_add, and_true] at kT; obtain ⟨⟨kz0, kf0, kc0_0, kc0_1⟩, kE⟩ := kT) | (go_at_call 166; refine (HCk.out _ kE).mono ?_; rintro e w6 ⟨rfl, hb6⟩))
      obtain ⟨A1, c3, rfl, hc3, _, _⟩ := own_slice HO4.out
      have HO6 := hide (own_ext HO4.out hb6)
      have E6 := hide (E4.out.trans hb6)
      clear hb6
      go_roundw
      case rel => exact ⟨k + 1, by omega, by omega, rfl, hide (by rw [HD.out]; exact HO6.out), E6⟩
      case measure => simp [lenOf]; omega
set_option maxRecDepth 20000 in
set_option maxHeartbeats 4000000 in
theorem l06Walk_any (N E : List P2) (A B : Option Addr) (c c' d : Nat) (w : World) (hw : WR w N E A B c c') (hok : WinOk N E) (hd : d < 2 * E.length) :
    Calls Try.prog 123 #[.agg #[.slice A N.length c, .slice B E.length c'], .int .i64 (d : Nat)] w fun e w' => ∃ g c2, e = .returned (.slice (some ⟨g, 0, none⟩) (walkL (nextN N E) (2 * E.length) d).length c2) ∧ w'.ownsRow w.heap.size 3 1 (.slice (some ⟨g, 0, none⟩) (walkL (nextN N E) (2 * E.length) d).length c2) (walkL (nextN N E) (2 * E.length) d).length (encN (walkL (nextN N E) (2 * E.length) d)) ∧ Ext w w' := by
  obtain ⟨i0, hi, hz0, hz1, hz2⟩ := info_parts int_info
  obtain ⟨p, hp1, hp2, hp3, hp4, hp5⟩ := (next_inj N E).walk hd
  have hlen : (walkL (nextN N E) (2 * E.length) d).length = p := by rw [hp5]; simp
  have hm := hok.m
  have HW := hide hw
  have HK := hide hok
  have hlt : ∀ k, it (nextN N E) k d < 2 * E.length := (next_inj N E).it_lt hd
  have HLT := hide hlt
  have HP3 := hide hp3
  have HP4 := hide hp4
  have HP5 := hide hp5
  rw [hlen]
  clear hw hok hlt hp3 hp4 hp5 hlen
  have HC := hide (show ∀ (W : World) (k : Nat), Ext w W → Calls Try.prog 153 #[.agg #[.slice A N.length c, .slice B E.length c'], .int .i64 (it (nextN N E) k d : Nat)] W fun e w' => e = .returned (.int .i64 (it (nextN N E) (k + 1) d : Nat)) ∧ Ext W w' from fun W k hE => by have := l06Next_any N E A B c c' (it (nextN N E) k d) W (HW.out.ext hE) HK.out (HLT.out k); exact this)
  have hx : ∀ k, bits .xor .i64 ((it (nextN N E) k d : Nat) : Int) 1 = ((twin (it (nextN N E) k d) : Nat) : Int) := fun k => xor_twin _ (by have := HLT.out k; omega)
  have hx0 : bits .xor .i64 ((d : Nat) : Int) 1 = ((twin d : Nat) : Int) := xor_twin _ (by omega)
  have HX := hide hx
  clear hx
  
  go_enter Try.func123, Try.ntmps123
  go_wp2_with (go_at_call 153; refine (HC.out _ 0 (by repeat (first | exact kE | exact Ext.refl _ | apply Ext.alloc | apply Ext.drewN | apply Ext.drew | apply Ext.set0 | apply Ext.set1 | apply Ext.set2 | apply Ext.set3 | (refine Ext.setk ?_ (by omega) _) | (apply Ext.snoc; assumption)))).mono ?_; rintro e w3 ⟨rfl, hb3⟩)
  obtain ⟨w0, hw⟩ : ∃ w1, w1 = w.alloc (Obj.cells #[Value.slice A N.length c, Value.slice B E.length c'] 27) := ⟨_, rfl⟩
  rw [← hw] at hb3
  have hsz0 : w0.heap.size = w.heap.size + 1 := by rw [hw]; simp
  have HT := hide (show Tr [(w.heap.size, [.slice A N.length c, .slice B E.length c'])] w w0 from by rw [hw]; exact ⟨by simp [Bx, CellsAt, go_sem, *], by repeat (first | exact kE | exact Ext.refl _ | apply Ext.alloc | apply Ext.drewN | apply Ext.drew | apply Ext.set0 | apply Ext.set1 | apply Ext.set2 | apply Ext.set3 | (refine Ext.setk ?_ (by omega) _) | (apply Ext.snoc; assumption))⟩)
  clear hw
  rw [← hsz0]
  have HSZ := hide hsz0
  clear hsz0
  have kT := HT.out; simp only [Tr, Bx, CellsAt, Nat.reduceAdd, Nat.zero_add, and_true] at kT; obtain ⟨⟨kz0, kf0, kc0_0, kc0_1⟩, kE⟩ := kT
  have HW0 := hide kE
  have HT0 := HT
  clear HT
  clear kz0 kf0 kc0_0 kc0_1 kE
  have HO3 := hide (own_ext (World.ownsRow_lit (e := 3) (size := 1) w0 #[.int .i64 (d : Nat)] 1 (Nat.le_refl _) (by unfold maxLen; omega) rfl) hb3)
  have HE3 := hide ((((Ext.refl w0).alloc _).trans hb3))
  clear hb3
  go_loopw [5, 6] (fun v i wr => ∃ k : Nat, 1 ≤ k ∧ k ≤ p ∧ i = .int .i64 (it (nextN N E) k d : Nat) ∧ Hid (wr.ownsRow w0.heap.size 3 1 v k (encN ((List.range k).map fun j => it (nextN N E) j d))) ∧ Hid (Ext w0 wr)) (fun v _ _ => p - lenOf v)
  case atStart => exact ⟨1, Nat.le_refl _, hp1, rfl, HO3, HE3⟩
  case round =>
    clear HO3 HE3 hx0
    obtain ⟨k, hk1, hk2, rfl, HO, HE⟩ := hrel
    have HT := hide (HT0.out.ext HE.out)
    have kT := HT.out; simp only [Tr, Bx, CellsAt, Nat.reduceAdd, Nat.zero_add, and_true] at kT; obtain ⟨⟨kz0, kf0, kc0_0, kc0_1⟩, kE⟩ := kT
    have xk := HX.out k
    have hl := HLT.out k
    have HCk := hide (HC.out · k)
    by_cases hkp : k = p
    · subst hkp
      have HLL := hide HP3.out
      have e3 := HP3.out
      obtain ⟨A0, c2, rfl, hc2, hA0, hA1⟩ := own_slice HO.out
      cases A0 with
      | none => exact absurd (hA0 rfl) (by omega)
      | some a0 =>
        obtain ⟨g, rfl, hgB, hgl, _⟩ := hA1 a0 rfl
        clear hA0 hA1
        rw [e3]
        clear e3 xk hl
        go_wp2_with fail
        go_ret
        exact ⟨g, c2, rfl, by rw [HP5.out]; exact own_mono HO.out HW0.out.size, HW0.out.trans HE.out⟩
    · have hne := HP4.out k hk1 (by omega)
      have hsz2 := HE.out.size
      have HD := hide (show encN ((List.range (k + 1)).map fun j => it (nextN N E) j d) = encN ((List.range k).map fun j => it (nextN N E) j d) ++ [.int .i64 (it (nextN N E) k d : Nat)] by rw [List.range_succ, List.map_append, encN_append]; rfl)
      have HLk := hide (show ((List.range k).map fun j => it (nextN N E) j d).length = k by simp)
      obtain ⟨u, hu⟩ : ∃ u, it (nextN N E) k d = u := ⟨_, rfl⟩
      rw [hu] at xk hl hne HD HCk ⊢
      have n1 : (u != d) = true := by simp; exact hne
      have n2 : ((u : Int) != (d : Int)) = true := by simp; omega
      have HU := hide hu
      clear hu hne
      obtain ⟨A0, c2, rfl, hc2, hA0, hA1⟩ := own_slice HO.out
      clear hA0 hA1
      go_wp2_with (first | (at_builtin; refine wpList_append_own _ rfl _ _ 29 rfl w0.heap.size 3 i0 (.int .i64 0) 1 8 Try.underlying29 hi hz0 hz1 hz2 rfl (by decide) (.slice A0 k c2) k (encN ((List.range k).map fun j => it (nextN N E) j d)) rfl (own_ext HO.out ((Ext.refl _).alloc _)) ⟨wr.heap.size, 0, none⟩ 1 1 [.int .i64 (u : Int)] rfl rfl (news_new wr #[.int .i64 (u : Int)] 3) (one_cell _) (by unfold maxLen; omega) (by omega) (by first | (simp; done) | (simp; omega)) ?_; intro v' w4 hown4 hgrow4 hnil; have E4 := hide (Ext.grown (HE.out.alloc _) hgrow4 (own_base HO.out (Nat.le_refl _))); have HT4 := hide (HT0.out.ext E4.out); have HO4 := hide hown4; clear hown4 hgrow4 hnil HT kz0 kf0 kc0_0 kc0_1 kE; have HT := HT4; clear HT4; have kT := HT.out; simp only [Tr, Bx, CellsAt, Nat.reduceAdd, Nat.zero_add, and_true] at kT; obtain ⟨⟨kz0, kf0, kc0_0, kc0_1⟩, kE⟩ := kT) | (go_at_call 153; refine (HCk.out _ kE).mono ?_; rintro e w6 ⟨rfl, hb6⟩))
      obtain ⟨A1, c3, rfl, hc3, _, _⟩ := own_slice HO4.out
      have HO6 := hide (own_ext HO4.out hb6)
      have E6 := hide (E4.out.trans hb6)
      clear hb6
      go_roundw
      case rel => exact ⟨k + 1, by omega, by omega, rfl, hide (by rw [HD.out]; exact HO6.out), E6⟩
      case measure => simp [lenOf]; omega
end Go.Proofs.Ytkgbilbicdiadaa
