/- slices.Index and slices.Contains on lists of pairs of numbers. No condition but that a list has at most 1048576 elements. -/
import Derived.Test.YtkgbilbicdiadaaNodes
set_option linter.unusedSimpArgs false
set_option linter.unusedVariables false
namespace Go.Proofs.Ytkgbilbicdiadaa
open Go.RowKit

/-- Where a pair stands first in a list; -1 if it does not. -/
def ix2 (l : List P2) (p : P2) : Int := if p ∈ l then (l.idxOf p : Nat) else -1
theorem ix2_none {l : List P2} {p : P2} (h : p ∉ l) : ix2 l p = -1 := by rw [ix2, if_neg h]
theorem ix2_some {l : List P2} {p : P2} {k : Nat} (h : k < l.length) (he : l[k] = p) (hn : ∀ j (hj : j < k), l[j] ≠ p) : ix2 l p = k := by
  have hm : p ∈ l := by rw [← he]; exact List.getElem_mem h
  rw [ix2, if_pos hm]
  have h1 : l.idxOf p < l.length := List.idxOf_lt_length_of_mem hm
  have h2 : l[l.idxOf p] = p := List.getElem_idxOf h1
  rcases Nat.lt_trichotomy (l.idxOf p) k with h3 | h3 | h3
  · exact absurd h2 (hn _ h3)
  · rw [h3]
  · have := List.not_of_lt_findIdx (p := (· == p)) (xs := l) (i := k) (by simpa [List.idxOf] using h3)
    simp [he] at this
theorem ix2_nonneg (l : List P2) (p : P2) : (0 ≤ ix2 l p) ↔ p ∈ l := by
  unfold ix2
  split <;> simp [*]
theorem IndexNode_any (l : List P2) (A : Option Addr) (c : Nat) (x y : Int) (w : World) (hl : l.length ≤ 1048576) (hr : R2 w A l) :
    Calls Try.prog 173 #[.slice A l.length c, .agg #[.int .i64 x, .int .i64 y]] w fun e w' => e = .returned (.int .i64 (ix2 l (x, y))) ∧ Ext w w' := by
  have HR := hide hr
  clear hr
  go_enter Try.func173, Try.ntmps173
  go_wp2_with fail
  obtain ⟨w1, hw1⟩ : ∃ w1, w1 = w.alloc (Obj.cells #[Value.int IntKind.i64 x, Value.int IntKind.i64 y] 79) := ⟨_, rfl⟩
  rw [← hw1]
  have D1 : w1.cell? ⟨w.heap.size, 0, none⟩ = some (.int .i64 x) ∧ w1.cell? ⟨w.heap.size, 1, none⟩ = some (.int .i64 y) ∧ w.heap.size < w1.heap.size := by rw [hw1]; simp [go_sem]
  have D2 : Ext w w1 := by rw [hw1]; repeat (first | exact kE | exact Ext.refl _ | apply Ext.alloc | apply Ext.drewN | apply Ext.drew | apply Ext.set0 | apply Ext.set1 | apply Ext.set2 | apply Ext.set3 | (refine Ext.setk ?_ (by omega) _) | (apply Ext.snoc; assumption))
  have HD := hide (And.intro D1.1 (And.intro D1.2.1 (And.intro D1.2.2 D2)))
  clear D1 D2 hw1
  go_loopw [8] (fun i wr => ∃ k : Nat, k ≤ l.length ∧ i = .int .i64 k ∧ Hid (∀ j (h : j < k) (h' : j < l.length), l[j] ≠ (x, y)) ∧ Ext w1 wr) (fun i _ => l.length - (intOf i).toNat)
  case atStart => exact ⟨0, Nat.zero_le _, rfl, hide (by intro j h; omega), Ext.refl _⟩
  case round =>
    obtain ⟨k, hk, rfl, hp, hE⟩ := hrel
    obtain ⟨D0, D1, hz, hE1⟩ := HD.out
    have c0 := (hE.facts.1 _ 0 hz).trans D0
    have c1 := (hE.facts.1 _ 1 hz).trans D1
    clear D0 D1
    by_cases hlt : k < l.length
    · obtain ⟨b, off, rfl, hb, e0, e1⟩ := R2.at_ (HR.out.ext (hE1.trans hE)) hlt
      by_cases hx : x = l[k].1 ∧ y = l[k].2
      · obtain ⟨hx0, hx1⟩ := hx
        go_wp2
        go_quiet (fail)
        go_wp2
        go_ret
        exact ⟨ret_int (ix2_some hlt (Prod.ext hx0.symm hx1.symm) (fun j hj => hp.out j hj (by omega))).symm, by repeat (first | exact kE | exact Ext.refl _ | apply Ext.alloc | apply Ext.drewN | apply Ext.drew | apply Ext.set0 | apply Ext.set1 | apply Ext.set2 | apply Ext.set3 | (refine Ext.setk ?_ (by omega) _) | (apply Ext.snoc; assumption))⟩
      · have HX := hide hx
        by_cases hx0 : x = l[k].1
        · have hx1 : ¬ y = l[k].2 := fun h => hx ⟨hx0, h⟩
          clear hx
          go_wp2
          go_quiet (fail)
          go_wp2
          go_roundw
          case rel => exact ⟨k + 1, by omega, by go_num, hide (fun j hj hj' => by
            rcases Nat.lt_or_ge j k with h | h
            · exact hp.out j h hj'
            · obtain rfl : j = k := by omega
              exact fun e => HX.out ⟨by rw [e], by rw [e]⟩), by repeat (first | exact kE | exact Ext.refl _ | apply Ext.alloc | apply Ext.drewN | apply Ext.drew | apply Ext.set0 | apply Ext.set1 | apply Ext.set2 | apply Ext.set3 | (refine Ext.setk ?_ (by omega) _) | (apply Ext.snoc; assumption))⟩
          case measure => simp [intOf]; omega
        · clear hx
          go_wp2
          go_quiet (fail)
          go_wp2
          go_roundw
          case rel => exact ⟨k + 1, by omega, by go_num, hide (fun j hj hj' => by
            rcases Nat.lt_or_ge j k with h | h
            · exact hp.out j h hj'
            · obtain rfl : j = k := by omega
              exact fun e => HX.out ⟨by rw [e], by rw [e]⟩), by repeat (first | exact kE | exact Ext.refl _ | apply Ext.alloc | apply Ext.drewN | apply Ext.drew | apply Ext.set0 | apply Ext.set1 | apply Ext.set2 | apply Ext.set3 | (refine Ext.setk ?_ (by omega) _) | (apply Ext.snoc; assumption))⟩
          case measure => simp [intOf]; omega
    · go_wp2
      go_ret
      exact ⟨ret_int (ix2_none (fun h => by
        obtain ⟨j, hj, hjp⟩ := List.getElem_of_mem h
        exact hp.out j (by omega) hj hjp)).symm, by repeat (first | exact kE | exact Ext.refl _ | apply Ext.alloc | apply Ext.drewN | apply Ext.drew | apply Ext.set0 | apply Ext.set1 | apply Ext.set2 | apply Ext.set3 | (refine Ext.setk ?_ (by omega) _) | (apply Ext.snoc; assumption))⟩
theorem ContainsNode_any (l : List P2) (A : Option Addr) (c : Nat) (x y : Int) (w : World) (hl : l.length ≤ 1048576) (hr : R2 w A l) :
    Calls Try.prog 162 #[.slice A l.length c, .agg #[.int .i64 x, .int .i64 y]] w fun e w' => e = .returned (.bool (decide ((x, y) ∈ l))) ∧ Ext w w' := by
  have HR := hide hr
  clear hr
  go_enter Try.func162, Try.ntmps162
  go_wp2_with fail
  refine (IndexNode_any l A c x y _ hl (Rds.ext HR.out (by repeat (first | exact kE | exact Ext.refl _ | apply Ext.alloc | apply Ext.drewN | apply Ext.drew | apply Ext.set0 | apply Ext.set1 | apply Ext.set2 | apply Ext.set3 | (refine Ext.setk ?_ (by omega) _) | (apply Ext.snoc; assumption))))).mono ?_; rintro e w1 ⟨rfl, hb1⟩
  go_wp2_with fail
  go_ret
  exact ⟨ret_bool (by rw [Bool.eq_iff_iff]; simp [ix2_nonneg]), by repeat (first | exact kE | exact Ext.refl _ | apply Ext.alloc | apply Ext.drewN | apply Ext.drew | apply Ext.set0 | apply Ext.set1 | apply Ext.set2 | apply Ext.set3 | (refine Ext.setk ?_ (by omega) _) | (apply Ext.snoc; assumption))⟩
theorem enc2_take (l : List P2) (k : Nat) : (enc2 l).take (k * 2) = enc2 (l.take k) := by
  induction l generalizing k with
  | nil => simp [enc2]
  | cons p l ih =>
    cases k with
    | zero => simp [enc2]
    | succ k =>
      rw [enc2_cons, List.take_succ_cons, enc2_cons, show (k + 1) * 2 = k * 2 + 1 + 1 from by omega, List.take_succ_cons, List.take_succ_cons, ih]
theorem R2.take {w : World} {A : Option Addr} {l : List P2} (h : R2 w A l) {k : Nat} (hk : k ≤ l.length) : Rds w 2 A k (enc2 (l.take k)) := by
  rw [← enc2_take]
  exact Rds.take h hk
theorem ContainsTake_any (l : List P2) (A : Option Addr) (k c : Nat) (x y : Int) (w : World) (hl : l.length ≤ 1048576) (hk : k ≤ l.length) (hr : R2 w A l) :
    Calls Try.prog 162 #[.slice A k c, .agg #[.int .i64 x, .int .i64 y]] w fun e w' => e = .returned (.bool (decide ((x, y) ∈ l.take k))) ∧ Ext w w' := by
  have e : (l.take k).length = k := by simp; omega
  have h := ContainsNode_any (l.take k) A c x y w (by omega) (by show Rds w 2 A (l.take k).length (enc2 (l.take k)); rw [e]; exact R2.take hr hk)
  rwa [e] at h
end Go.Proofs.Ytkgbilbicdiadaa
