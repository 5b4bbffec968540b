/- Walks of the tests on lists of firings, and of the reference's sums. No condition but that a list has at most 1048576 elements. -/
import Derived.Test.YtgddpeaoacmfnaaKilnB
import Derived.Test.YtgddpeaoacmfnaaKilnQ
import Derived.Test.YtgddpeaoacmfnaaSun
import Derived.Test.YtgddpeaoacmfnaaTrack
set_option linter.unusedSimpArgs false
set_option linter.unusedVariables false
namespace Go.Proofs.Ytgddpeaoacmfnaa
open Go.RowKit

def costOne : Int × Int → Int := fun _ => 1
def costHours : Int × Int → Int := fun q => q.2
def okF (s : P3) : Bool := firingOk s.1 s.2.1 s.2.2
def firingsB (l : List P3) : Bool := decide (l.length ≤ 10) && l.all okF
theorem firingsB_true {l : List P3} (h : firingsB l = true) : l.length ≤ 10 ∧ ∀ y ∈ l, 400 ≤ y.1 ∧ y.1 ≤ 900 ∧ 1 ≤ y.2.1 ∧ y.2.1 ≤ 24 ∧ 1 ≤ y.2.2 ∧ y.2.2 ≤ 100 := by
  simp only [firingsB, Bool.and_eq_true, decide_eq_true_eq, List.all_eq_true] at h
  exact ⟨h.1, fun y hy => firingOk_true (h.2 y hy)⟩
theorem firingsOk_any (l : List P3) (A : Option Addr) (c : Nat) (w : World) (hl : l.length ≤ 1048576) (hr : R3 w A l) :
    Calls Try.prog 28 #[.slice A l.length c] w fun e w' => e = .returned (.bool (firingsB l)) ∧ Ext w w' := by
  have HR := hide hr
  clear hr
  by_cases h2 : (10 : Int) < l.length
  · go_enter Try.func28, Try.ntmps28
    go_wp2_with fail
    go_ret
    exact ⟨ret_bool (by have : ¬ l.length ≤ 10 := by omega
                        simp [firingsB, this]), by repeat (first | exact kE | exact Ext.refl _ | apply Ext.alloc | apply Ext.drewN | apply Ext.drew | apply Ext.set0 | apply Ext.set1 | apply Ext.set2 | apply Ext.set3 | (refine Ext.setk ?_ (by omega) _) | (apply Ext.snoc; assumption))⟩
  · go_enter Try.func28, Try.ntmps28
    go_wp2_with fail
    go_loopw [10] (fun i wr => ∃ k : Nat, k ≤ l.length ∧ i = .int .i64 k ∧ Hid ((l.take k).all okF = true) ∧ Ext w wr) (fun i _ => l.length - (intOf i).toNat)
    case atStart => exact ⟨0, Nat.zero_le _, rfl, hide (by simp), Ext.refl _⟩
    case round =>
      obtain ⟨k, hk, rfl, hp, hE⟩ := hrel
      by_cases hlt : k < l.length
      · obtain ⟨b, off, rfl, hb, e0, e1, e2⟩ := R3.at_ (HR.out.ext hE) hlt
        have HN := hide (all_take_succ l okF k hlt)
        go_wp2_with (first | (go_at_call 24; refine (FiringOk_any _ _ _ _).mono ?_; rintro e w5 ⟨rfl, hb5⟩))
        · have hv : okF l[k] = false := by unfold okF; (first | assumption | ((try simp only [Bool.not_eq_true'] at *); (try simp only [Bool.not_eq_false'] at *); (try simp only [Bool.not_eq_true] at *); assumption))
          go_ret
          exact ⟨ret_bool (by unfold firingsB; rw [all_false_at l _ k hlt hv, Bool.and_false]), by repeat (first | exact kE | exact Ext.refl _ | apply Ext.alloc | apply Ext.drewN | apply Ext.drew | apply Ext.set0 | apply Ext.set1 | apply Ext.set2 | apply Ext.set3 | (refine Ext.setk ?_ (by omega) _) | (apply Ext.snoc; assumption))⟩
        · have hv : okF l[k] = true := by unfold okF; (first | assumption | ((try simp only [Bool.not_eq_true'] at *); (try simp only [Bool.not_eq_false'] at *); (try simp only [Bool.not_eq_true] at *); assumption))
          go_roundw
          case rel => exact ⟨k + 1, by omega, by go_num, hide (by rw [HN.out, hp.out, hv]; rfl), by repeat (first | exact kE | exact Ext.refl _ | apply Ext.alloc | apply Ext.drewN | apply Ext.drew | apply Ext.set0 | apply Ext.set1 | apply Ext.set2 | apply Ext.set3 | (refine Ext.setk ?_ (by omega) _) | (apply Ext.snoc; assumption))⟩
          case measure => simp [intOf]; omega
      · go_wp2
        go_ret
        exact ⟨ret_bool (by have := hp.out; rw [List.take_of_length_le (by omega)] at this; have h6 : l.length ≤ 10 := by omega
                            unfold firingsB; rw [this, decide_eq_true h6]; rfl), by repeat (first | exact kE | exact Ext.refl _ | apply Ext.alloc | apply Ext.drewN | apply Ext.drew | apply Ext.set0 | apply Ext.set1 | apply Ext.set2 | apply Ext.set3 | (refine Ext.setk ?_ (by omega) _) | (apply Ext.snoc; assumption))⟩
theorem l22Ok_any (l : List P3) (A : Option Addr) (c : Nat) (w : World) (hl : l.length ≤ 1048576) (hr : R3 w A l) :
    Calls Try.prog 25 #[.slice A l.length c] w fun e w' => e = .returned (.bool (firingsB l)) ∧ Ext w w' := by
  have HR := hide hr
  clear hr
  go_enter Try.func25, Try.ntmps25
  go_wp2_with fail
  go_loopw [3] (fun i wr => ∃ k : Nat, k ≤ l.length ∧ i = .int .i64 k ∧ Hid ((l.take k).all okF = true) ∧ Ext w wr) (fun i _ => l.length - (intOf i).toNat)
  case atStart => exact ⟨0, Nat.zero_le _, rfl, hide (by simp), Ext.refl _⟩
  case round =>
    obtain ⟨k, hk, rfl, hp, hE⟩ := hrel
    by_cases hlt : k < l.length
    · obtain ⟨b, off, rfl, hb, e0, e1, e2⟩ := R3.at_ (HR.out.ext hE) hlt
      have HN := hide (all_take_succ l okF k hlt)
      go_wp2_with (first | (go_at_call 38; refine (sFiringOk_any _ _ _ _).mono ?_; rintro e w5 ⟨rfl, hb5⟩))
      · have hv : okF l[k] = false := by unfold okF; (first | assumption | ((try simp only [Bool.not_eq_true'] at *); (try simp only [Bool.not_eq_false'] at *); (try simp only [Bool.not_eq_true] at *); assumption))
        go_ret
        exact ⟨ret_bool (by unfold firingsB; rw [all_false_at l _ k hlt hv, Bool.and_false]), by repeat (first | exact kE | exact Ext.refl _ | apply Ext.alloc | apply Ext.drewN | apply Ext.drew | apply Ext.set0 | apply Ext.set1 | apply Ext.set2 | apply Ext.set3 | (refine Ext.setk ?_ (by omega) _) | (apply Ext.snoc; assumption))⟩
      · have hv : okF l[k] = true := by unfold okF; (first | assumption | ((try simp only [Bool.not_eq_true'] at *); (try simp only [Bool.not_eq_false'] at *); (try simp only [Bool.not_eq_true] at *); assumption))
        go_roundw
        case rel => exact ⟨k + 1, by omega, by go_num, hide (by rw [HN.out, hp.out, hv]; rfl), by repeat (first | exact kE | exact Ext.refl _ | apply Ext.alloc | apply Ext.drewN | apply Ext.drew | apply Ext.set0 | apply Ext.set1 | apply Ext.set2 | apply Ext.set3 | (refine Ext.setk ?_ (by omega) _) | (apply Ext.snoc; assumption))⟩
        case measure => simp [intOf]; omega
    · have hall : l.all okF = true := by have := hp.out; rwa [List.take_of_length_le (by omega)] at this
      have HA := hide hall
      clear hall
      go_wp2
      go_ret
      exact ⟨ret_bool (by unfold firingsB; rw [HA.out, Bool.and_true]; (try simp); (try omega)), by repeat (first | exact kE | exact Ext.refl _ | apply Ext.alloc | apply Ext.drewN | apply Ext.drew | apply Ext.set0 | apply Ext.set1 | apply Ext.set2 | apply Ext.set3 | (refine Ext.setk ?_ (by omega) _) | (apply Ext.snoc; assumption))⟩

/-- The sums over the kinds of the first k panes. -/
structure Sums (L : List P3) (k : Nat) (n h : Int) (ks : List (Int × Int)) (m : Int × Int → Nat) : Prop where
  nodup : ks.Nodup
  mem : ∀ key, key ∈ ks ↔ ∃ i, i < k ∧ ∃ x, L[i]? = some x ∧ (x.1, x.2.1) = key
  min : ∀ key ∈ ks, MinPk (rooms key L) (m key)
  n_ : n = (ks.map fun q => (m q : Int) * (fun _ => (1 : Int)) q).sum
  h_ : h = (ks.map fun q => (m q : Int) * (fun q : Int × Int => q.2) q).sum
  n0 : 0 ≤ n ∧ n ≤ 10 * k
  h0 : 0 ≤ h ∧ h ≤ 240 * k
theorem Sums.start (L : List P3) : Sums L 0 0 0 [] (fun _ => 0) := ⟨List.nodup_nil, fun key => by simp, fun key h => absurd h (by simp), rfl, rfl, by omega, by omega⟩
theorem sum_with {ks : List (Int × Int)} {m : Int × Int → Nat} {c : Int × Int → Int} {q : Int × Int} {b : Nat} (hq : q ∉ ks) : ((q :: ks).map fun k => ((if k = q then b else m k : Nat) : Int) * c k).sum = (b : Int) * c q + (ks.map fun k => (m k : Int) * c k).sum := by
  rw [List.map_cons, List.sum_cons, if_pos rfl]
  congr 1
  congr 1
  refine List.map_congr_left fun k hk => ?_
  rw [if_neg (fun e : k = q => hq (by rw [← e]; exact hk))]
theorem Sums.new {L : List P3} {k : Nat} {n h : Int} {ks : List (Int × Int)} {m : Int × Int → Nat} (hs : Sums L k n h ks m) {x : P3} {b : Nat} (hx : L[k]? = some x) (hnew : ∀ (i : Nat) y, i < k → L[i]? = some y → (y.1, y.2.1) ≠ (x.1, x.2.1)) (hb : MinPk (rooms (x.1, x.2.1) L) b) (hb10 : b ≤ 10) (hx24 : 0 ≤ x.2.1 ∧ x.2.1 ≤ 24) :
    Sums L (k + 1) (n + b) (h + b * x.2.1) ((x.1, x.2.1) :: ks) (fun q => if q = (x.1, x.2.1) then b else m q) := by
  have hq : (x.1, x.2.1) ∉ ks := fun hin => by
    obtain ⟨i, hi, y, hy, e⟩ := (hs.mem _).1 hin
    exact hnew i y hi hy e
  have hn := hs.n0
  have hh := hs.h0
  have p1 : 0 ≤ (b : Int) * x.2.1 := Int.mul_nonneg (by omega) hx24.1
  have p2 : (b : Int) * x.2.1 ≤ 10 * 24 := Int.mul_le_mul (by omega) hx24.2 hx24.1 (by omega)
  refine ⟨List.nodup_cons.2 ⟨hq, hs.nodup⟩, fun key => ?_, fun key hk => ?_, ?_, ?_, by push_cast; omega, by push_cast; omega⟩
  · rw [List.mem_cons, hs.mem]
    constructor
    · rintro (rfl | ⟨i, hi, y, hy, e⟩)
      · exact ⟨k, by omega, x, hx, rfl⟩
      · exact ⟨i, by omega, y, hy, e⟩
    · rintro ⟨i, hi, y, hy, e⟩
      by_cases ei : i = k
      · subst ei
        rw [hx] at hy
        injection hy with hy
        subst hy
        exact .inl e.symm
      · exact .inr ⟨i, by omega, y, hy, e⟩
  · by_cases e : key = (x.1, x.2.1)
    · subst e
      rw [if_pos rfl]
      exact hb
    · rw [if_neg e]
      exact hs.min key ((List.mem_cons.1 hk).resolve_left e)
  · rw [sum_with (c := fun _ => (1 : Int)) hq, ← hs.n_]
    omega
  · rw [sum_with (c := fun q : Int × Int => q.2) hq, ← hs.h_]
    show h + (b : Int) * x.2.1 = (b : Int) * x.2.1 + h
    omega
theorem Sums.old {L : List P3} {k : Nat} {n h : Int} {ks : List (Int × Int)} {m : Int × Int → Nat} (hs : Sums L k n h ks m) {x : P3} (hx : L[k]? = some x) {i : Nat} {y : P3} (hi : i < k) (hy : L[i]? = some y) (he : (y.1, y.2.1) = (x.1, x.2.1)) : Sums L (k + 1) n h ks m := by
  have hn := hs.n0
  have hh := hs.h0
  refine ⟨hs.nodup, fun key => ?_, hs.min, hs.n_, hs.h_, by push_cast; omega, by push_cast; omega⟩
  rw [hs.mem]
  constructor
  · rintro ⟨i, hi, y, hy, e⟩
    exact ⟨i, by omega, y, hy, e⟩
  · rintro ⟨j, hj, z, hz, e⟩
    by_cases ej : j = k
    · subst ej
      rw [hx] at hz
      injection hz with hz
      subst hz
      exact ⟨i, hi, y, hy, he.trans e⟩
    · exact ⟨j, by omega, z, hz, e⟩
theorem Sums.done {L : List P3} {n h : Int} {ks : List (Int × Int)} {m : Int × Int → Nat} (hs : Sums L L.length n h ks m) (hL : ∀ y ∈ L, 1 ≤ y.2.1) : MinFir (fun _ => 1) L n ∧ MinFir (fun q => q.2) L h := by
  have hc : ∀ x ∈ L, (x.1, x.2.1) ∈ ks := fun x hx => by
    obtain ⟨i, hi, e⟩ := List.mem_iff_getElem.1 hx
    exact (hs.mem _).2 ⟨i, hi, x, by rw [List.getElem?_eq_getElem hi, e], rfl⟩
  constructor
  · rw [hs.n_]
    exact MinFir.ofKinds hs.nodup hc hs.min fun _ _ => by omega
  · rw [hs.h_]
    refine MinFir.ofKinds hs.nodup hc hs.min fun key hk => ?_
    obtain ⟨i, _, x, hx, rfl⟩ := (hs.mem key).1 hk
    have := hL x (List.mem_of_getElem? hx)
    show 0 ≤ x.2.1
    omega
/-- The rooms of the kind among the first i panes. -/
theorem rooms_take_succ (key : Int × Int) (L : List P3) {i : Nat} (h : i < L.length) : rooms key (L.take (i + 1)) = rooms key (L.take i) ++ if (L[i].1, L[i].2.1) = key then [L[i].2.2] else [] := by
  rw [List.take_succ_eq_append_getElem h, rooms_append]
  congr 1
  unfold rooms
  by_cases e : (L[i].1, L[i].2.1) = key <;> simp [e]
theorem rooms_length (key : Int × Int) (L : List P3) : (rooms key L).length ≤ L.length := by
  unfold rooms
  rw [List.length_map]
  exact List.length_filter_le _ _
theorem rooms_all_in {key : Int × Int} {L : List P3} (h : ∀ y ∈ L, 1 ≤ y.2.2 ∧ y.2.2 ≤ 100) : ∀ r ∈ rooms key L, 1 ≤ r ∧ r ≤ 100 := fun r hr => by
  obtain ⟨y, hy, rfl⟩ := List.mem_map.1 hr
  exact h y (List.mem_filter.1 hy).1
/-- Whether pane k is the first of its kind among the first i panes. -/
def firstTo (L : List P3) (k : Nat) (key : Int × Int) (i : Nat) (b : Bool) : Prop := b = true ↔ ∀ j, j < i → ∀ y, L[j]? = some y → (y.1, y.2.1) = key → k ≤ j
theorem firstTo.start (L : List P3) (k : Nat) (key : Int × Int) : firstTo L k key 0 true := ⟨fun _ j hj => absurd hj (by omega), fun _ => rfl⟩
theorem firstTo.skip {L : List P3} {k i : Nat} {key : Int × Int} {b : Bool} (h : firstTo L k key i b) (hi : i < L.length) (hk : (L[i].1, L[i].2.1) ≠ key) : firstTo L k key (i + 1) b := by
  unfold firstTo at h ⊢
  rw [h]
  constructor
  · intro g j hj y hy e
    by_cases ej : j = i
    · subst ej
      rw [List.getElem?_eq_getElem hi] at hy
      injection hy with hy
      subst hy
      exact absurd e hk
    · exact g j (by omega) y hy e
  · intro g j hj y hy e
    exact g j (by omega) y hy e
theorem firstTo.take {L : List P3} {k i : Nat} {key : Int × Int} {b : Bool} (h : firstTo L k key i b) (hi : i < L.length) (hk : (L[i].1, L[i].2.1) = key) : firstTo L k key (i + 1) (b && decide (k ≤ i)) := by
  unfold firstTo at h ⊢
  rw [Bool.and_eq_true, h, decide_eq_true_eq]
  constructor
  · rintro ⟨g, g'⟩ j hj y hy e
    by_cases ej : j = i
    · subst ej; exact g'
    · exact g j (by omega) y hy e
  · intro g
    exact ⟨fun j hj y hy e => g j (by omega) y hy e, g i (by omega) _ (List.getElem?_eq_getElem hi) hk⟩
set_option maxRecDepth 100000 in
set_option maxHeartbeats 2000000 in
theorem l22Sums_any (L : List P3) (A : Option Addr) (c : Nat) (w : World) (hok : firingsB L = true) (hr : R3 w A L) :
    Calls Try.prog 26 #[.slice A L.length c] w fun e w' => ∃ n h, e = .returned (.tuple #[.int .i64 n, .int .i64 h]) ∧ MinFir (fun _ => 1) L n ∧ MinFir (fun q => q.2) L h ∧ Ext w w' := by
  obtain ⟨i0, hi, hz0, hz1, hz2⟩ := info_parts int_info
  obtain ⟨hl, hall⟩ := firingsB_true hok
  have HR := hide hr
  have HL := hide hall
  clear hr hall hok
  go_enter Try.func26, Try.ntmps26
  go_wp2_with fail
  go_loopw [4, 5, 6] (fun n h i wr => ∃ k : Nat, k ≤ L.length ∧ i = .int .i64 k ∧ (∃ nn hh ks m, n = .int .i64 nn ∧ h = .int .i64 hh ∧ Hid (Sums L k nn hh ks m)) ∧ Ext w wr) (fun _ _ i _ => L.length - (intOf i).toNat)
  case atStart => exact ⟨0, Nat.zero_le _, rfl, ⟨0, 0, [], _, rfl, rfl, hide (Sums.start L)⟩, Ext.refl _⟩
  case round =>
    obtain ⟨k, hk, rfl, ⟨nn, hh, ks, m, rfl, rfl, hs⟩, hE⟩ := hrel
    have HE := hide hE
    clear hE
    by_cases hlt : k < L.length
    · obtain ⟨q1, hq1⟩ : ∃ q, L[k].1 = q := ⟨_, rfl⟩
      obtain ⟨q2, hq2⟩ : ∃ q, L[k].2.1 = q := ⟨_, rfl⟩
      have HQ1 := hide hq1
      have HQ2 := hide hq2
      clear hq1 hq2
      go_wp2_with fail
      have ho0 : (wr.alloc (.cells #[] 3)).ownsRow wr.heap.size 3 1 (.slice (some ⟨wr.heap.size, 0, none⟩) 0 0) 0 [] := World.ownsRow_lit (base := wr.heap.size) (e := 3) (size := 1) wr #[] 0 (Nat.le_refl _) (Nat.zero_le _) rfl
      have HO0 := hide ho0
      obtain ⟨wb, rfl⟩ : ∃ wb : World, wb = wr := ⟨_, rfl⟩
      clear ho0
      go_loopw [7, 8, 9] (fun v f ii wi => ∃ i : Nat, i ≤ L.length ∧ ii = .int .i64 i ∧ (∃ b, f = .bool b ∧ Hid (firstTo L k (q1, q2) i b)) ∧ wi.ownsRow wb.heap.size 3 1 v (rooms (q1, q2) (L.take i)).length (encI (rooms (q1, q2) (L.take i))) ∧ Ext wb wi) (fun _ _ i _ => L.length - (intOf i).toNat)
      case atStart => exact ⟨0, Nat.zero_le _, rfl, ⟨true, rfl, hide (firstTo.start _ _ _)⟩, HO0.out, (Ext.refl _).alloc _⟩
      case round =>
        obtain ⟨i, hik, rfl, ⟨b, rfl, hf⟩, hown, hE⟩ := hrel
        have HO := hide hown
        have HI := hide hE
        have hsz := hE.size
        clear hown
        by_cases hil : i < L.length
        · obtain ⟨b0, off, rfl, hb, e0, e1, e2⟩ := R3.at_ (HR.out.ext (HE.out.trans hE)) hil
          obtain ⟨b1, off1, hA, _, d0, d1, d2⟩ := R3.at_ (HR.out.ext (HE.out.trans hE)) hlt
          injection hA with hA
          injection hA with hA1 hA2 _
          subst hA1 hA2
          clear hE d2
          rw [HQ1.out] at d0
          rw [HQ2.out] at d1
          obtain ⟨p1, hp1⟩ : ∃ q, L[i].1 = q := ⟨_, rfl⟩
          obtain ⟨p2, hp2⟩ : ∃ q, L[i].2.1 = q := ⟨_, rfl⟩
          obtain ⟨p3, hp3⟩ : ∃ q, L[i].2.2 = q := ⟨_, rfl⟩
          rw [hp1] at e0
          rw [hp2] at e1
          rw [hp3] at e2
          have HT := hide (rooms_take_succ (q1, q2) L hil)
          have HP1 := hide hp1
          have HP2 := hide hp2
          have HP3 := hide hp3
          have hlen := rooms_length (q1, q2) (L.take i)
          have hlen2 : (L.take i).length ≤ 10 := by rw [List.length_take]; omega
          clear hp1 hp2 hp3
          by_cases g1 : p1 = q1
          · by_cases g2 : p2 = q2
            · subst g1 g2
              have HKEY := hide (show (L[i].1, L[i].2.1) = (p1, p2) by rw [HP1.out, HP2.out])
              have ht : rooms (p1, p2) (L.take (i + 1)) = rooms (p1, p2) (L.take i) ++ [p3] := by rw [HT.out, if_pos HKEY.out, HP3.out]
              have HT := hide ht
              have HF := hide (hf.out.take hil HKEY.out)
              have HFD := HF
              clear ht
              by_cases hki : (k : Int) ≤ i
              · have hkd : decide (k ≤ i) = true := decide_eq_true (by omega)
                rw [hkd] at HF
                clear hkd
                cases b
                · skip
                  go_wp2_with fail
                  go_quiet (fail)
                  go_wp2_with (at_builtin; refine wpList_append_own _ rfl _ _ 29 rfl wb.heap.size 3 i0 (.int .i64 0) 1 8 Try.underlying29 hi hz0 hz1 hz2 rfl (by decide) u7 (rooms (p1, p2) (L.take i)).length (encI (rooms (p1, p2) (L.take i))) rfl (own_ext HO.out (by repeat (first | exact kE | exact Ext.refl _ | apply Ext.alloc | apply Ext.drewN | apply Ext.drew | apply Ext.set0 | apply Ext.set1 | apply Ext.set2 | apply Ext.set3 | (refine Ext.setk ?_ (by omega) _) | (apply Ext.snoc; assumption)))) ⟨wr.heap.size, 0, none⟩ 1 1 [.int .i64 p3] rfl rfl (news_new _ #[.int .i64 p3] 3) (enc_one _) (by unfold maxLen; omega) (by omega) (by first | (simp; done) | (simp; omega)) ?_; intro v' w4 hown4 hgrow4 hnil)
                  have E4 := Ext.grown (show Ext wb _ from (by have hE := HI.out; repeat (first | exact kE | exact Ext.refl _ | apply Ext.alloc | apply Ext.drewN | apply Ext.drew | apply Ext.set0 | apply Ext.set1 | apply Ext.set2 | apply Ext.set3 | (refine Ext.setk ?_ (by omega) _) | (apply Ext.snoc; assumption)))) hgrow4 (own_base HO.out (Nat.le_refl _))
                  have ho4 : w4.ownsRow wb.heap.size 3 1 v' (rooms (p1, p2) (L.take (i + 1))).length (encI (rooms (p1, p2) (L.take (i + 1)))) := by
                    rw [HT.out, encI_append, List.length_append]
                    exact hown4
                  have HO4 := hide ho4
                  clear hown4 hgrow4 hnil ho4
                  go_roundw
                  case rel => exact ⟨i + 1, by omega, by go_num, by first | exact ⟨_, rfl, HF⟩ | exact ⟨_, rfl, HFD⟩, HO4.out, E4⟩
                  case measure => simp [intOf]; omega
                · skip
                  go_wp2_with fail
                  go_quiet (fail)
                  go_wp2_with (at_builtin; refine wpList_append_own _ rfl _ _ 29 rfl wb.heap.size 3 i0 (.int .i64 0) 1 8 Try.underlying29 hi hz0 hz1 hz2 rfl (by decide) u7 (rooms (p1, p2) (L.take i)).length (encI (rooms (p1, p2) (L.take i))) rfl (own_ext HO.out (by repeat (first | exact kE | exact Ext.refl _ | apply Ext.alloc | apply Ext.drewN | apply Ext.drew | apply Ext.set0 | apply Ext.set1 | apply Ext.set2 | apply Ext.set3 | (refine Ext.setk ?_ (by omega) _) | (apply Ext.snoc; assumption)))) ⟨wr.heap.size, 0, none⟩ 1 1 [.int .i64 p3] rfl rfl (news_new _ #[.int .i64 p3] 3) (enc_one _) (by unfold maxLen; omega) (by omega) (by first | (simp; done) | (simp; omega)) ?_; intro v' w4 hown4 hgrow4 hnil)
                  have E4 := Ext.grown (show Ext wb _ from (by have hE := HI.out; repeat (first | exact kE | exact Ext.refl _ | apply Ext.alloc | apply Ext.drewN | apply Ext.drew | apply Ext.set0 | apply Ext.set1 | apply Ext.set2 | apply Ext.set3 | (refine Ext.setk ?_ (by omega) _) | (apply Ext.snoc; assumption)))) hgrow4 (own_base HO.out (Nat.le_refl _))
                  have ho4 : w4.ownsRow wb.heap.size 3 1 v' (rooms (p1, p2) (L.take (i + 1))).length (encI (rooms (p1, p2) (L.take (i + 1)))) := by
                    rw [HT.out, encI_append, List.length_append]
                    exact hown4
                  have HO4 := hide ho4
                  clear hown4 hgrow4 hnil ho4
                  go_roundw
                  case rel => exact ⟨i + 1, by omega, by go_num, by first | exact ⟨_, rfl, HF⟩ | exact ⟨_, rfl, HFD⟩, HO4.out, E4⟩
                  case measure => simp [intOf]; omega
              · have hkd : decide (k ≤ i) = false := decide_eq_false (by omega)
                rw [hkd] at HF
                clear hkd
                cases b
                · skip
                  go_wp2_with fail
                  go_quiet (fail)
                  go_wp2_with (at_builtin; refine wpList_append_own _ rfl _ _ 29 rfl wb.heap.size 3 i0 (.int .i64 0) 1 8 Try.underlying29 hi hz0 hz1 hz2 rfl (by decide) u7 (rooms (p1, p2) (L.take i)).length (encI (rooms (p1, p2) (L.take i))) rfl (own_ext HO.out (by repeat (first | exact kE | exact Ext.refl _ | apply Ext.alloc | apply Ext.drewN | apply Ext.drew | apply Ext.set0 | apply Ext.set1 | apply Ext.set2 | apply Ext.set3 | (refine Ext.setk ?_ (by omega) _) | (apply Ext.snoc; assumption)))) ⟨wr.heap.size, 0, none⟩ 1 1 [.int .i64 p3] rfl rfl (news_new _ #[.int .i64 p3] 3) (enc_one _) (by unfold maxLen; omega) (by omega) (by first | (simp; done) | (simp; omega)) ?_; intro v' w4 hown4 hgrow4 hnil)
                  have E4 := Ext.grown (show Ext wb _ from (by have hE := HI.out; repeat (first | exact kE | exact Ext.refl _ | apply Ext.alloc | apply Ext.drewN | apply Ext.drew | apply Ext.set0 | apply Ext.set1 | apply Ext.set2 | apply Ext.set3 | (refine Ext.setk ?_ (by omega) _) | (apply Ext.snoc; assumption)))) hgrow4 (own_base HO.out (Nat.le_refl _))
                  have ho4 : w4.ownsRow wb.heap.size 3 1 v' (rooms (p1, p2) (L.take (i + 1))).length (encI (rooms (p1, p2) (L.take (i + 1)))) := by
                    rw [HT.out, encI_append, List.length_append]
                    exact hown4
                  have HO4 := hide ho4
                  clear hown4 hgrow4 hnil ho4
                  go_roundw
                  case rel => exact ⟨i + 1, by omega, by go_num, by first | exact ⟨_, rfl, HF⟩ | exact ⟨_, rfl, HFD⟩, HO4.out, E4⟩
                  case measure => simp [intOf]; omega
                · skip
                  go_wp2_with fail
                  go_quiet (fail)
                  go_wp2_with (at_builtin; refine wpList_append_own _ rfl _ _ 29 rfl wb.heap.size 3 i0 (.int .i64 0) 1 8 Try.underlying29 hi hz0 hz1 hz2 rfl (by decide) u7 (rooms (p1, p2) (L.take i)).length (encI (rooms (p1, p2) (L.take i))) rfl (own_ext HO.out (by repeat (first | exact kE | exact Ext.refl _ | apply Ext.alloc | apply Ext.drewN | apply Ext.drew | apply Ext.set0 | apply Ext.set1 | apply Ext.set2 | apply Ext.set3 | (refine Ext.setk ?_ (by omega) _) | (apply Ext.snoc; assumption)))) ⟨wr.heap.size, 0, none⟩ 1 1 [.int .i64 p3] rfl rfl (news_new _ #[.int .i64 p3] 3) (enc_one _) (by unfold maxLen; omega) (by omega) (by first | (simp; done) | (simp; omega)) ?_; intro v' w4 hown4 hgrow4 hnil)
                  have E4 := Ext.grown (show Ext wb _ from (by have hE := HI.out; repeat (first | exact kE | exact Ext.refl _ | apply Ext.alloc | apply Ext.drewN | apply Ext.drew | apply Ext.set0 | apply Ext.set1 | apply Ext.set2 | apply Ext.set3 | (refine Ext.setk ?_ (by omega) _) | (apply Ext.snoc; assumption)))) hgrow4 (own_base HO.out (Nat.le_refl _))
                  have ho4 : w4.ownsRow wb.heap.size 3 1 v' (rooms (p1, p2) (L.take (i + 1))).length (encI (rooms (p1, p2) (L.take (i + 1)))) := by
                    rw [HT.out, encI_append, List.length_append]
                    exact hown4
                  have HO4 := hide ho4
                  clear hown4 hgrow4 hnil ho4
                  go_roundw
                  case rel => exact ⟨i + 1, by omega, by go_num, by first | exact ⟨_, rfl, HF⟩ | exact ⟨_, rfl, HFD⟩, HO4.out, E4⟩
                  case measure => simp [intOf]; omega
            · subst g1
              have HF := hide (hf.out.skip hil (by rw [HP1.out, HP2.out]; intro e; injection e with _ e; exact g2 e))
              have ht : rooms (p1, q2) (L.take (i + 1)) = rooms (p1, q2) (L.take i) := by rw [HT.out, if_neg (by rw [HP1.out, HP2.out]; intro e; injection e with _ e; exact g2 e), List.append_nil]
              have HT := hide ht
              clear ht
              go_wp2_with fail
              go_quiet (fail)
              go_wp2_with fail
              go_roundw
              case rel => exact ⟨i + 1, by omega, by go_num, ⟨_, rfl, HF⟩, by rw [HT.out]; exact own_ext HO.out (by repeat (first | exact kE | exact Ext.refl _ | apply Ext.alloc | apply Ext.drewN | apply Ext.drew | apply Ext.set0 | apply Ext.set1 | apply Ext.set2 | apply Ext.set3 | (refine Ext.setk ?_ (by omega) _) | (apply Ext.snoc; assumption))), by have hE := HI.out; repeat (first | exact kE | exact Ext.refl _ | apply Ext.alloc | apply Ext.drewN | apply Ext.drew | apply Ext.set0 | apply Ext.set1 | apply Ext.set2 | apply Ext.set3 | (refine Ext.setk ?_ (by omega) _) | (apply Ext.snoc; assumption))⟩
              case measure => simp [intOf]; omega
          · have HF := hide (hf.out.skip hil (by rw [HP1.out, HP2.out]; intro e; injection e with e _; exact g1 e))
            have ht : rooms (q1, q2) (L.take (i + 1)) = rooms (q1, q2) (L.take i) := by rw [HT.out, if_neg (by rw [HP1.out, HP2.out]; intro e; injection e with e _; exact g1 e), List.append_nil]
            have HT := hide ht
            clear ht
            go_wp2_with fail
            go_quiet (fail)
            go_wp2_with fail
            go_roundw
            case rel => exact ⟨i + 1, by omega, by go_num, ⟨_, rfl, HF⟩, by rw [HT.out]; exact own_ext HO.out (by repeat (first | exact kE | exact Ext.refl _ | apply Ext.alloc | apply Ext.drewN | apply Ext.drew | apply Ext.set0 | apply Ext.set1 | apply Ext.set2 | apply Ext.set3 | (refine Ext.setk ?_ (by omega) _) | (apply Ext.snoc; assumption))), by have hE := HI.out; repeat (first | exact kE | exact Ext.refl _ | apply Ext.alloc | apply Ext.drewN | apply Ext.drew | apply Ext.set0 | apply Ext.set1 | apply Ext.set2 | apply Ext.set3 | (refine Ext.setk ?_ (by omega) _) | (apply Ext.snoc; assumption))⟩
            case measure => simp [intOf]; omega
        · obtain rfl : i = L.length := by omega
          have hx := List.getElem?_eq_getElem hlt
          have hq : (L[k].1, L[k].2.1) = (q1, q2) := by rw [HQ1.out, HQ2.out]
          have ho := HO.out
          rw [List.take_of_length_le (Nat.le_refl _)] at ho
          have HO := hide ho
          obtain ⟨Ar, cr, hv, _, _, _⟩ := own_slice ho
          subst hv
          clear ho
          have hall := HL.out
          have HRI := hide (rooms_all_in (key := (q1, q2)) (L := L) fun y hy => ⟨(hall y hy).2.2.2.2.1, (hall y hy).2.2.2.2.2⟩)
          have hlen := rooms_length (q1, q2) L
          have h24 := hall _ (List.getElem_mem hlt)
          rw [HQ1.out, HQ2.out] at h24
          obtain ⟨_, _, h24, h24', _, _⟩ := h24
          have hn0 := hs.out.n0
          have hh0 := hs.out.h0
          clear hall
          cases b
          · have hold : ∃ j, j < k ∧ ∃ y, L[j]? = some y ∧ (y.1, y.2.1) = (q1, q2) := by
              refine Classical.byContradiction fun hno => ?_
              have := hf.out.2 (fun j hj y hy e => by
                rcases Nat.lt_or_ge j k with h | h
                · exact absurd ⟨j, h, y, hy, e⟩ hno
                · exact h)
              exact absurd this (by simp)
            obtain ⟨j, hj, y, hy, e⟩ := hold
            have HS := hide (hs.out.old hx hj hy (e.trans hq.symm))
            clear hx hj hy e hq hE
            go_wp2_with fail
            go_roundw
            case rel => exact ⟨k + 1, by omega, by go_num, ⟨nn, hh, ks, m, rfl, rfl, HS⟩, HE.out.trans HI.out⟩
            case measure => simp [intOf]; omega
          · obtain ⟨b1, off1, rfl, hb, d0, d1, d2⟩ := R3.at_ (HR.out.ext (HE.out.trans hE)) hlt
            rw [HQ1.out] at d0
            rw [HQ2.out] at d1
            clear d0 d2
            have HNEW := hide (hf.out.1 rfl)
            go_wp2_with fail
            refine (l22Batches_any (rooms (q1, q2) L) Ar cr _ (by omega) HRI.out (Rds.of_own HO.out)).mono ?_; rintro e w5 ⟨b, rfl, hmin, hb5⟩
            have hb10 := hmin.1.length
            have f1 := (hb5.facts.1 _ _ hb).trans d1
            have HE5 := hide ((HE.out.trans HI.out).trans hb5)
            have p1 : 0 ≤ (b : Int) * q2 := Int.mul_nonneg (by omega) (by omega)
            have p2 : (b : Int) * q2 ≤ 10 * 24 := Int.mul_le_mul (by omega) (by omega) (by omega) (by omega)
            have HS := hide (hs.out.new (b := b) hx (fun i y hi hy e => absurd (HNEW.out i (by omega) y hy (by rw [← hq]; exact e)) (by omega)) (by rw [hq]; exact hmin) (by omega) (by rw [HQ2.out]; omega))
            have hs2 := HS.out
            rw [HQ2.out] at hs2
            have HS := hide hs2
            have y1 : IntKind.i64.wrap ((b : Int) * q2) = (b : Int) * q2 := IntWalk.i64_in _ (by omega)
            clear hs2 hx hq hE hb d1 hb5 hmin
            go_wp2_with fail
            (try go_quiet (fail))
            (try go_wp2_with fail)
            clear y1
            go_roundw
            case rel => exact ⟨k + 1, by omega, by go_num, ⟨_, _, _, _, rfl, rfl, HS⟩, by have hE := HE5.out; repeat (first | exact kE | exact Ext.refl _ | apply Ext.alloc | apply Ext.drewN | apply Ext.drew | apply Ext.set0 | apply Ext.set1 | apply Ext.set2 | apply Ext.set3 | (refine Ext.setk ?_ (by omega) _) | (apply Ext.snoc; assumption))⟩
            case measure => simp [intOf]; omega
    · obtain rfl : k = L.length := by omega
      have HD := hide (hs.out.done fun y hy => (HL.out y hy).2.2.1)
      go_wp2_with fail
      refine bodyPost_ret (v := .tuple #[.int .i64 nn, .int .i64 hh]) (by simp only [results, Try.results26]; go_simp) rfl ⟨nn, hh, rfl, HD.out.1, HD.out.2, HE.out⟩
end Go.Proofs.Ytgddpeaoacmfnaa
