/- Walk of membersOf: the numbers of a set of bits, rising. No condition but that the set is below 2^40. -/
import Derived.Test.YtkgbilbicdiadaaBits
import Derived.Test.YtkgbilbicdiadaaMat
import Derived.Test.YtkgbilbicdiadaaOwn
import Derived.Test.YtkgbilbicdiadaaInts
import Derived.Test.YtkgbilbicdiadaaNodes
import Derived.IntWalk
set_option linter.unusedSimpArgs false
set_option linter.unusedVariables false
namespace Go.Proofs.Ytkgbilbicdiadaa
open Go.RowKit

def memN (s n : Nat) : List Nat := (List.range n).filter (s.testBit ·)
def memI (s n : Nat) : List Int := List.map (fun x : Nat => (x : Int)) (memN s n)
theorem memI_length (s n : Nat) : (memI s n).length = (memN s n).length := by simp [memI]
theorem memN_succ (s n : Nat) : memN s (n + 1) = memN s n ++ if s.testBit n then [n] else [] := by
  unfold memN
  rw [List.range_succ, List.filter_append]
  cases h : s.testBit n <;> simp [h]
theorem memI_yes {s n : Nat} (h : s.testBit n = true) : memI s (n + 1) = memI s n ++ [(n : Int)] := by simp [memI, memN_succ, h]
theorem memI_no {s n : Nat} (h : s.testBit n = false) : memI s (n + 1) = memI s n := by simp [memI, memN_succ, h]
theorem memN_more {s i : Nat} (h : s < 2 ^ i) : ∀ d, memN s (i + d) = memN s i
  | 0 => rfl
  | d + 1 => by
    have : s.testBit (i + d) = false := Nat.testBit_lt_two_pow (Nat.lt_of_lt_of_le h (Nat.pow_le_pow_right (by decide) (by omega)))
    rw [← Nat.add_assoc, memN_succ, this, memN_more h d]
    simp
theorem memN_same {s i j : Nat} (hi : s < 2 ^ i) (hj : s < 2 ^ j) : memN s i = memN s j := by
  rcases Nat.le_total i j with h | h
  · have := memN_more hi (j - i)
    rw [← this]
    congr 1
    omega
  · have := memN_more hj (i - j)
    rw [← this]
    congr 1
    omega
theorem memN_length (s n : Nat) : (memN s n).length ≤ n := by
  have := List.length_filter_le (s.testBit ·) (List.range n)
  simpa [memN] using this
theorem memN_mem {s n k : Nat} : k ∈ memN s n ↔ k < n ∧ s.testBit k = true := by simp [memN]
theorem div_zero {s k : Nat} (h : s < 2 ^ k) : (s : Int) / 2 ^ k = 0 := by
  have e : (s : Int) / 2 ^ k = ((s / 2 ^ k : Nat) : Int) := by simp
  rw [e, Nat.div_eq_of_lt h]
  rfl
theorem div_pos {s k : Nat} (h : ¬ s < 2 ^ k) : 0 < (s : Int) / 2 ^ k := by
  have e : (s : Int) / 2 ^ k = ((s / 2 ^ k : Nat) : Int) := by simp
  rw [e]
  have := Nat.div_pos (Nat.le_of_not_lt h) (Nat.two_pow_pos k)
  omega
theorem enc_one (a : Int) : ∀ u ∈ [Value.int .i64 a], u.oneCell' = true := by intro u hu; simp at hu; subst hu; rfl
set_option maxHeartbeats 1000000 in
theorem membersOf_any (s n : Nat) (w : World) (hs : s < 2 ^ n) (hn : n ≤ 40) :
    Calls Try.prog 125 #[.int .i64 s] w fun e w' => ∃ A c, e = .returned (.slice A (memI s n).length c) ∧ w'.ownsRow w.heap.size 3 1 (.slice A (memI s n).length c) (memI s n).length (encI (memI s n)) ∧ Ext w w' := by
  obtain ⟨i0, hi, hz0, hz1, hz2⟩ := info_parts int_info
  have hs62 : s < 2 ^ 62 := Nat.lt_of_lt_of_le hs (Nat.pow_le_pow_right (by decide) (by omega))
  have HS := hide hs
  have HS2 := hide hs62
  clear hs hs62
  go_enter Try.func125, Try.ntmps125
  go_wp2_with fail
  go_loopw [3, 4] (fun v i wr => ∃ k : Nat, k ≤ n ∧ i = .int .i64 k ∧ wr.ownsRow w.heap.size 3 1 v (memI s k).length (encI (memI s k)) ∧ Ext w wr) (fun _ i _ => n + 1 - (intOf i).toNat)
  case atStart => exact ⟨0, Nat.zero_le _, rfl, World.ownsRow_nil w w.heap.size 3 1, Ext.refl _⟩
  case round =>
    obtain ⟨k, hk, rfl, hown, hE⟩ := hrel
    have HO := hide hown
    have HE := hide hE
    clear hown hE
    by_cases hlt : s < 2 ^ k
    · have HM := hide (memN_same hlt HS.out)
      have hd := div_zero hlt
      obtain ⟨A, c, e1, _⟩ := own_slice HO.out
      clear hlt
      subst e1
      go_wp2_with fail
      go_ret
      have e2 : memI s k = memI s n := by unfold memI; rw [HM.out]
      have ho := HO.out
      rw [e2] at ho
      exact ⟨A, c, by rw [e2]; rfl, ho, HE.out⟩
    · have hkn : k < n := by
        rcases Nat.lt_or_ge k n with h | h
        · exact h
        · exact absurd (Nat.lt_of_lt_of_le HS.out (Nat.pow_le_pow_right (by decide) h)) hlt
      have HD := hide (div_pos hlt)
      clear hlt
      by_cases hb : s.testBit k = true
      · have HBV := hide (show bits .and .i64 ((s : Int) / 2 ^ k) 1 = 1 by rw [bit_at s k HS2.out, if_pos hb])
        have HM := hide (memI_yes hb)
        have hml : (memI s k).length ≤ 40 := by rw [memI_length]; have := memN_length s k; omega
        clear hb
        have hsz := HE.out.size
        have hd := HD.out
        have hbv := HBV.out
        go_wp2_with (at_builtin; refine wpList_append_own _ rfl _ _ 29 rfl w.heap.size 3 i0 (.int .i64 0) 1 8 Try.underlying29 hi hz0 hz1 hz2 rfl (by decide) u3 (memI s k).length (encI (memI s k)) rfl (own_ext HO.out ((Ext.refl _).alloc _)) ⟨wr.heap.size, 0, none⟩ 1 1 [.int .i64 (k : Int)] rfl rfl (news_new wr #[.int .i64 (k : Int)] 3) (enc_one _) (by unfold maxLen; omega) (by omega) (by first | (simp; done) | (simp; omega)) ?_; intro v' w4 hown4 hgrow4 hnil)
        clear hd hbv
        have E4 := Ext.grown (HE.out.alloc _) hgrow4 (own_base HO.out (Nat.le_refl _))
        have ho4 : w4.ownsRow w.heap.size 3 1 v' (memI s (k + 1)).length (encI (memI s (k + 1))) := by
          rw [HM.out, encI_append, List.length_append]
          exact hown4
        have HO4 := hide ho4
        clear hown4 hgrow4 hnil ho4
        go_roundw
        case rel => exact ⟨k + 1, by omega, by go_num, HO4.out, E4⟩
        case measure => simp [intOf]; omega
      · have hb' : s.testBit k = false := by simpa using hb
        have HBV := hide (show bits .and .i64 ((s : Int) / 2 ^ k) 1 = 0 by rw [bit_at s k HS2.out, hb']; rfl)
        have HM := hide (memI_no hb')
        clear hb hb'
        have hd := HD.out
        have hbv := HBV.out
        go_wp2_with fail
        clear hd hbv
        go_roundw
        case rel => exact ⟨k + 1, by omega, by go_num, by rw [HM.out]; exact HO.out, HE.out⟩
        case measure => simp [intOf]; omega
end Go.Proofs.Ytkgbilbicdiadaa
