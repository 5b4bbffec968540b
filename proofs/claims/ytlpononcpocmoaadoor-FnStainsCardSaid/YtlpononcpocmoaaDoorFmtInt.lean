/- Walks of numbers written as text, in both forms. Condition: from 0 to 1000. -/
import Derived.Test.YtlpononcpocmoaaDoorItoaD
import Derived.Laws.IdiomStrings
import Derived.IntWalk
set_option linter.unusedSimpArgs false
set_option linter.unusedVariables false
namespace Go.Proofs.YtlpononcpocmoaaDoor
open Go.RowKit

/-- The digits of a number, none for 0. -/
def digs (k : Nat) : List UInt8 := if k = 0 then [] else Lib.decDigits k
theorem digs_step {k : Nat} (h : k ≠ 0) : digs k = digs (k / 10) ++ [UInt8.ofNat (48 + k % 10)] := by
  unfold digs
  rw [if_neg h, Lib.decDigits]
  by_cases hk : k < 10
  · rw [dif_pos hk, if_pos (by omega)]
    have : k % 10 = k := by omega
    rw [this]; rfl
  · rw [dif_neg hk, if_neg (by omega)]
def dec (n : Int) : ByteArray := ⟨(Lib.itoa n).toArray⟩
theorem dec_pos {k : Nat} (h : k ≠ 0) : dec (k : Int) = ⟨(digs k).toArray⟩ := by
  unfold dec digs Lib.itoa
  rw [if_neg h, if_neg (by omega)]
  rfl
theorem dec_zero : dec 0 = ⟨#[48]⟩ := by
  unfold dec Lib.itoa
  rw [if_neg (by omega), show ((0 : Int).toNat) = 0 from rfl, Lib.decDigits_one (by omega)]
  rfl
theorem TabExt {w w' : World} (h : Lib.TabIs Tryd.prog w "internal/strconv.uint64pow10" .u64 Lib.pow10Tab) (hE : Ext w w') : Lib.TabIs Tryd.prog w' "internal/strconv.uint64pow10" .u64 Lib.pow10Tab := Lib.tabBelow_of_tabIs h w' hE
theorem FormatInt_any (n : Int) (h0 : 0 ≤ n) (h1 : n ≤ 1000) (w : World) (htab : Lib.TabIs Tryd.prog w "internal/strconv.uint64pow10" .u64 Lib.pow10Tab) :
    Calls Tryd.prog 17 #[.int .i64 n] w fun e w' => e = .returned (.string (dec n)) ∧ Ext w w' := by
  have HT := hide htab
  clear htab
  go_enter Tryd.func17, Tryd.ntmps17
  go_wp2_with fail
  refine (Itoa_any n (by omega) (by omega) _ HT.out).mono ?_; rintro e w1 ⟨rfl, hb1⟩
  go_wp2_with fail
  go_ret
  exact ⟨rfl, hb1⟩
theorem l01Figure_any (n : Int) (h0 : 0 ≤ n) (h1 : n < 10) (w : World) :
    Calls Tryd.prog 24 #[.int .i64 n] w fun e w' => e = .returned (.int .u8 (48 + n)) ∧ w = w' := by
  have hw : IntKind.u8.wrap (48 + n) = 48 + n := by rw [IntKind.wrap_u8]; omega
  go_enter Tryd.func24, Tryd.ntmps24
  go_wp2
  go_ret
  exact ⟨rfl, rfl⟩
theorem sFormatInt_any (n : Nat) (h1 : n ≤ 1000) (w : World) :
    Calls Tryd.prog 16 #[.int .i64 n] w fun e w' => e = .returned (.string (dec n)) ∧ Ext w w' := by
  by_cases hn : n = 0
  · subst hn
    go_enter Tryd.func16, Tryd.ntmps16
    go_wp2
    go_ret
    exact ⟨by rw [show (((0 : Nat) : Int)) = 0 from rfl, dec_zero]; rfl, Ext.refl _⟩
  · have HN := hide hn
    have hp : 0 < n := by omega
    have hq : ((n : Int) == 0) = false := by rw [beq_eq_false_iff_ne]; omega
    clear hn
    go_enter Tryd.func16, Tryd.ntmps16
    go_wp2_with fail
    clear hq
    go_loopw [0, 4] (fun nv sv wr => ∃ (k : Nat) (l : List UInt8), nv = .int .i64 k ∧ sv = .string ⟨l.toArray⟩ ∧ l.length + k ≤ 1000 ∧ Hid (digs n = digs k ++ l) ∧ Ext w wr) (fun nv _ _ => (intOf nv).toNat)
    case atStart => exact ⟨n, [], rfl, rfl, by simpa using h1, hide (by simp), Ext.refl _⟩
    case round =>
      obtain ⟨k, l, rfl, rfl, hk, hd, hE⟩ := hrel
      have HE := hide hE
      clear hE
      by_cases hk0 : k = 0
      · subst hk0
        go_wp2_with fail
        go_ret
        refine ⟨?_, HE.out⟩
        rw [dec_pos HN.out, hd.out]
        rfl
      · have HS := hide (digs_step hk0)
        have hkp : 0 < k := by omega
        obtain ⟨d, hd1⟩ : ∃ d, k % 10 = d := ⟨_, rfl⟩
        have hd10 : d < 10 := by omega
        have m0 : (k : Int) % 10 = (d : Int) := by omega
        have HC : ∀ b : Nat, b = wr.heap.size → (convert 28 9 (.slice (some ⟨b, 0, none⟩) 1 1)).run Tryd.prog (wr.alloc (.cells #[.int .u8 (48 + d)] 5)) = .ok (.string ⟨#[UInt8.ofNat (48 + d)]⟩) (wr.alloc (.cells #[.int .u8 (48 + d)] 5)) := fun b hb => by
          subst hb
          exact run_convert_bytes_back (P := Tryd.prog) (wr.alloc (.cells #[.int .u8 (48 + d)] 5)) 28 9 5 ⟨wr.heap.size, 0, none⟩ 1 [UInt8.ofNat (48 + d)] Tryd.underlying28 Tryd.underlying5 Tryd.underlying9 (fun j hj => by
            obtain rfl : j = 0 := by simp at hj; omega
            have : (UInt8.ofNat (48 + d)).toNat = 48 + d := by simp; omega
            simp [go_sem, Addr.add, this]
            try omega)
        have hc := HC _ rfl
        have hsl : ¬ 9223372036854775807 < 1 + l.length := by omega
        have HM := hide hd1
        clear hk0 hd1 HC
        go_wp2_with (go_at_call 24; refine (l01Figure_any _ (by omega) (by omega) _).mono ?_; rintro e w' ⟨rfl, rfl⟩)
        have hk9 : k / 10 < k := Nat.div_lt_self hkp (by omega)
        clear hc
        go_roundw
        case rel =>
          refine ⟨k / 10, (48 + UInt8.ofNat d) :: l, by rw [show (k : Int) / 10 = ((k / 10 : Nat) : Int) by omega], ?_, by simp; omega, hide ?_, by have hE := HE.out; repeat (first | exact kE | exact Ext.refl _ | apply Ext.alloc | apply Ext.drewN | apply Ext.drew | apply Ext.set0 | apply Ext.set1 | apply Ext.set2 | apply Ext.set3 | (refine Ext.setk ?_ (by omega) _) | (apply Ext.snoc; assumption))⟩
          · congr 1
          · rw [hd.out, HS.out, HM.out, List.append_assoc]
            simp
        case measure => simp [intOf]; omega
end Go.Proofs.YtlpononcpocmoaaDoor
