/- Walks of the tests on lists of firings, and of the reference's sums. No condition but that a list has at most 1048576 elements. -/
import Derived.Test.YtndbbdbnimmcoaaKilnB
import Derived.Test.YtndbbdbnimmcoaaKilnQ
import Derived.Test.YtndbbdbnimmcoaaSun
import Derived.Test.YtndbbdbnimmcoaaTrack
set_option linter.unusedSimpArgs false
set_option linter.unusedVariables false
namespace Go.Proofs.Ytndbbdbnimmcoaa
open Go.RowKit

def costOne : Int × Int → Int := fun _ => 1
def costHours : Int × Int → Int := fun q => q.2
def okF (s : P3) : Bool := firingOk s.1 s.2.1 s.2.2
def firingsB (l : List P3) : Bool := decide (l.length ≤ 10) && l.all okF
theorem firingsB_true {l : List P3} (h : firingsB l = true) : l.length ≤ 10 ∧ ∀ y ∈ l, 400 ≤ y.1 ∧ y.1 ≤ 900 ∧ 1 ≤ y.2.1 ∧ y.2.1 ≤ 24 ∧ 1 ≤ y.2.2 ∧ y.2.2 ≤ 100 := by
  simp only [firingsB, Bool.and_eq_true, decide_eq_true_eq, List.all_eq_true] at h
  exact ⟨h.1, fun y hy => firingOk_true (h.2 y hy)⟩
theorem firingsOk_any (l : List P3) (A : Option Addr) (c : Nat) (w : World) (hl : l.length ≤ 1048576) (hr : R3 w A l) :
    Calls Try.prog 14 #[.slice A l.length c] w fun e w' => e = .returned (.bool (firingsB l)) ∧ Ext w w' := by
  have HR := hide hr
  clear hr
  by_cases h2 : (10 : Int) < l.length
  · go_enter Try.func14, Try.ntmps14
    go_wp2_with fail
    go_ret
    exact ⟨ret_bool (by have : ¬ l.length ≤ 10 := by omega
                        simp [firingsB, this]), by repeat (first | exact kE | exact Ext.refl _ | apply Ext.alloc | apply Ext.drewN | apply Ext.drew | apply Ext.set0 | apply Ext.set1 | apply Ext.set2 | apply Ext.set3 | (refine Ext.setk ?_ (by omega) _) | (apply Ext.snoc; assumption))⟩
  · go_enter Try.func14, Try.ntmps14
    go_wp2_with fail
    go_loopw [10] (fun i wr => ∃ k : Nat, k ≤ l.length ∧ i = .int .i64 k ∧ Hid ((l.take k).all okF = true) ∧ Ext w wr) (fun i _ => l.length - (intOf i).toNat)
    case atStart => exact ⟨0, Nat.zero_le _, rfl, hide (by simp), Ext.refl _⟩
    case round =>
      obtain ⟨k, hk, rfl, hp, hE⟩ := hrel
      by_cases hlt : k < l.length
      · obtain ⟨b, off, rfl, hb, e0, e1, e2⟩ := R3.at_ (HR.out.ext hE) hlt
        have HN := hide (all_take_succ l okF k hlt)
        go_wp2_with (first | (go_at_call 11; refine (FiringOk_any _ _ _ _).mono ?_; rintro e w5 ⟨rfl, hb5⟩))
        · have hv : okF l[k] = false := by unfold okF; (first | assumption | ((try simp only [Bool.not_eq_true'] at *); (try simp only [Bool.not_eq_false'] at *); (try simp only [Bool.not_eq_true] at *); assumption))
          go_ret
          exact ⟨ret_bool (by unfold firingsB; rw [all_false_at l _ k hlt hv, Bool.and_false]), by repeat (first | exact kE | exact Ext.refl _ | apply Ext.alloc | apply Ext.drewN | apply Ext.drew | apply Ext.set0 | apply Ext.set1 | apply Ext.set2 | apply Ext.set3 | (refine Ext.setk ?_ (by omega) _) | (apply Ext.snoc; assumption))⟩
        · have hv : okF l[k] = true := by unfold okF; (first | assumption | ((try simp only [Bool.not_eq_true'] at *); (try simp only [Bool.not_eq_false'] at *); (try simp only [Bool.not_eq_true] at *); assumption))
          go_roundw
          case rel => exact ⟨k + 1, by omega, by go_num, hide (by rw [HN.out, hp.out, hv]; rfl), by repeat (first | exact kE | exact Ext.refl _ | apply Ext.alloc | apply Ext.drewN | apply Ext.drew | apply Ext.set0 | apply Ext.set1 | apply Ext.set2 | apply Ext.set3 | (refine Ext.setk ?_ (by omega) _) | (apply Ext.snoc; assumption))⟩
          case measure => simp [intOf]; omega
      · go_wp2
        go_ret
        exact ⟨ret_bool (by have := hp.out; rw [List.take_of_length_le (by omega)] at this; have h6 : l.length ≤ 10 := by omega
                            unfold firingsB; rw [this, decide_eq_true h6]; rfl), by repeat (first | exact kE | exact Ext.refl _ | apply Ext.alloc | apply Ext.drewN | apply Ext.drew | apply Ext.set0 | apply Ext.set1 | apply Ext.set2 | apply Ext.set3 | (refine Ext.setk ?_ (by omega) _) | (apply Ext.snoc; assumption))⟩

/-- The sums over the kinds of the first k panes. -/
structure Sums (L : List P3) (k : Nat) (n h : Int) (ks : List (Int × Int)) (m : Int × Int → Nat) : Prop where
  nodup : ks.Nodup
  mem : ∀ key, key ∈ ks ↔ ∃ i, i < k ∧ ∃ x, L[i]? = some x ∧ (x.1, x.2.1) = key
  min : ∀ key ∈ ks, MinPk (rooms key L) (m key)
  n_ : n = (ks.map fun q => (m q : Int) * (fun _ => (1 : Int)) q).sum
  h_ : h = (ks.map fun q => (m q : Int) * (fun q : Int × Int => q.2) q).sum
  n0 : 0 ≤ n ∧ n ≤ 10 * k
  h0 : 0 ≤ h ∧ h ≤ 240 * k
theorem Sums.start (L : List P3) : Sums L 0 0 0 [] (fun _ => 0) := ⟨List.nodup_nil, fun key => by simp, fun key h => absurd h (by simp), rfl, rfl, by omega, by omega⟩
theorem sum_with {ks : List (Int × Int)} {m : Int × Int → Nat} {c : Int × Int → Int} {q : Int × Int} {b : Nat} (hq : q ∉ ks) : ((q :: ks).map fun k => ((if k = q then b else m k : Nat) : Int) * c k).sum = (b : Int) * c q + (ks.map fun k => (m k : Int) * c k).sum := by
  rw [List.map_cons, List.sum_cons, if_pos rfl]
  congr 1
  congr 1
  refine List.map_congr_left fun k hk => ?_
  rw [if_neg (fun e : k = q => hq (by rw [← e]; exact hk))]
theorem Sums.new {L : List P3} {k : Nat} {n h : Int} {ks : List (Int × Int)} {m : Int × Int → Nat} (hs : Sums L k n h ks m) {x : P3} {b : Nat} (hx : L[k]? = some x) (hnew : ∀ (i : Nat) y, i < k → L[i]? = some y → (y.1, y.2.1) ≠ (x.1, x.2.1)) (hb : MinPk (rooms (x.1, x.2.1) L) b) (hb10 : b ≤ 10) (hx24 : 0 ≤ x.2.1 ∧ x.2.1 ≤ 24) :
    Sums L (k + 1) (n + b) (h + b * x.2.1) ((x.1, x.2.1) :: ks) (fun q => if q = (x.1, x.2.1) then b else m q) := by
  have hq : (x.1, x.2.1) ∉ ks := fun hin => by
    obtain ⟨i, hi, y, hy, e⟩ := (hs.mem _).1 hin
    exact hnew i y hi hy e
  have hn := hs.n0
  have hh := hs.h0
  have p1 : 0 ≤ (b : Int) * x.2.1 := Int.mul_nonneg (by omega) hx24.1
  have p2 : (b : Int) * x.2.1 ≤ 10 * 24 := Int.mul_le_mul (by omega) hx24.2 hx24.1 (by omega)
  refine ⟨List.nodup_cons.2 ⟨hq, hs.nodup⟩, fun key => ?_, fun key hk => ?_, ?_, ?_, by push_cast; omega, by push_cast; omega⟩
  · rw [List.mem_cons, hs.mem]
    constructor
    · rintro (rfl | ⟨i, hi, y, hy, e⟩)
      · exact ⟨k, by omega, x, hx, rfl⟩
      · exact ⟨i, by omega, y, hy, e⟩
    · rintro ⟨i, hi, y, hy, e⟩
      by_cases ei : i = k
      · subst ei
        rw [hx] at hy
        injection hy with hy
        subst hy
        exact .inl e.symm
      · exact .inr ⟨i, by omega, y, hy, e⟩
  · by_cases e : key = (x.1, x.2.1)
    · subst e
      rw [if_pos rfl]
      exact hb
    · rw [if_neg e]
      exact hs.min key ((List.mem_cons.1 hk).resolve_left e)
  · rw [sum_with (c := fun _ => (1 : Int)) hq, ← hs.n_]
    omega
  · rw [sum_with (c := fun q : Int × Int => q.2) hq, ← hs.h_]
    show h + (b : Int) * x.2.1 = (b : Int) * x.2.1 + h
    omega
theorem Sums.old {L : List P3} {k : Nat} {n h : Int} {ks : List (Int × Int)} {m : Int × Int → Nat} (hs : Sums L k n h ks m) {x : P3} (hx : L[k]? = some x) {i : Nat} {y : P3} (hi : i < k) (hy : L[i]? = some y) (he : (y.1, y.2.1) = (x.1, x.2.1)) : Sums L (k + 1) n h ks m := by
  have hn := hs.n0
  have hh := hs.h0
  refine ⟨hs.nodup, fun key => ?_, hs.min, hs.n_, hs.h_, by push_cast; omega, by push_cast; omega⟩
  rw [hs.mem]
  constructor
  · rintro ⟨i, hi, y, hy, e⟩
    exact ⟨i, by omega, y, hy, e⟩
  · rintro ⟨j, hj, z, hz, e⟩
    by_cases ej : j = k
    · subst ej
      rw [hx] at hz
      injection hz with hz
      subst hz
      exact ⟨i, hi, y, hy, he.trans e⟩
    · exact ⟨j, by omega, z, hz, e⟩
theorem Sums.done {L : List P3} {n h : Int} {ks : List (Int × Int)} {m : Int × Int → Nat} (hs : Sums L L.length n h ks m) (hL : ∀ y ∈ L, 1 ≤ y.2.1) : MinFir (fun _ => 1) L n ∧ MinFir (fun q => q.2) L h := by
  have hc : ∀ x ∈ L, (x.1, x.2.1) ∈ ks := fun x hx => by
    obtain ⟨i, hi, e⟩ := List.mem_iff_getElem.1 hx
    exact (hs.mem _).2 ⟨i, hi, x, by rw [List.getElem?_eq_getElem hi, e], rfl⟩
  constructor
  · rw [hs.n_]
    exact MinFir.ofKinds hs.nodup hc hs.min fun _ _ => by omega
  · rw [hs.h_]
    refine MinFir.ofKinds hs.nodup hc hs.min fun key hk => ?_
    obtain ⟨i, _, x, hx, rfl⟩ := (hs.mem key).1 hk
    have := hL x (List.mem_of_getElem? hx)
    show 0 ≤ x.2.1
    omega
/-- The rooms of the kind among the first i panes. -/
theorem rooms_take_succ (key : Int × Int) (L : List P3) {i : Nat} (h : i < L.length) : rooms key (L.take (i + 1)) = rooms key (L.take i) ++ if (L[i].1, L[i].2.1) = key then [L[i].2.2] else [] := by
  rw [List.take_succ_eq_append_getElem h, rooms_append]
  congr 1
  unfold rooms
  by_cases e : (L[i].1, L[i].2.1) = key <;> simp [e]
theorem rooms_length (key : Int × Int) (L : List P3) : (rooms key L).length ≤ L.length := by
  unfold rooms
  rw [List.length_map]
  exact List.length_filter_le _ _
theorem rooms_all_in {key : Int × Int} {L : List P3} (h : ∀ y ∈ L, 1 ≤ y.2.2 ∧ y.2.2 ≤ 100) : ∀ r ∈ rooms key L, 1 ≤ r ∧ r ≤ 100 := fun r hr => by
  obtain ⟨y, hy, rfl⟩ := List.mem_map.1 hr
  exact h y (List.mem_filter.1 hy).1
/-- Whether pane k is the first of its kind among the first i panes. -/
def firstTo (L : List P3) (k : Nat) (key : Int × Int) (i : Nat) (b : Bool) : Prop := b = true ↔ ∀ j, j < i → ∀ y, L[j]? = some y → (y.1, y.2.1) = key → k ≤ j
theorem firstTo.start (L : List P3) (k : Nat) (key : Int × Int) : firstTo L k key 0 true := ⟨fun _ j hj => absurd hj (by omega), fun _ => rfl⟩
theorem firstTo.skip {L : List P3} {k i : Nat} {key : Int × Int} {b : Bool} (h : firstTo L k key i b) (hi : i < L.length) (hk : (L[i].1, L[i].2.1) ≠ key) : firstTo L k key (i + 1) b := by
  unfold firstTo at h ⊢
  rw [h]
  constructor
  · intro g j hj y hy e
    by_cases ej : j = i
    · subst ej
      rw [List.getElem?_eq_getElem hi] at hy
      injection hy with hy
      subst hy
      exact absurd e hk
    · exact g j (by omega) y hy e
  · intro g j hj y hy e
    exact g j (by omega) y hy e
theorem firstTo.take {L : List P3} {k i : Nat} {key : Int × Int} {b : Bool} (h : firstTo L k key i b) (hi : i < L.length) (hk : (L[i].1, L[i].2.1) = key) : firstTo L k key (i + 1) (b && decide (k ≤ i)) := by
  unfold firstTo at h ⊢
  rw [Bool.and_eq_true, h, decide_eq_true_eq]
  constructor
  · rintro ⟨g, g'⟩ j hj y hy e
    by_cases ej : j = i
    · subst ej; exact g'
    · exact g j (by omega) y hy e
  · intro g
    exact ⟨fun j hj y hy e => g j (by omega) y hy e, g i (by omega) _ (List.getElem?_eq_getElem hi) hk⟩
end Go.Proofs.Ytndbbdbnimmcoaa
