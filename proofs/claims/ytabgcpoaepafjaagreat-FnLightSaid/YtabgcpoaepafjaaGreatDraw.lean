/- Walks of the reference's draws: a cursor over bytes, and numbers below a bound. No condition but that the bytes lie in memory. -/
import Derived.Test.YtabgcpoaepafjaaGreatMem
set_option linter.unusedSimpArgs false
set_option linter.unusedVariables false
namespace Go.Proofs.YtabgcpoaepafjaaGreat
open Go.RowKit

def encB (l : List Int) : List Value := l.map (.int .u8)
theorem encB_length (l : List Int) : (encB l).length = l.length := by simp [encB]
theorem encB_get (l : List Int) (k : Nat) (h : k < l.length) : (encB l)[k]? = some (.int .u8 l[k]) := by simp [encB, h]
/-- The slice reads as the bytes l. -/
def RB (w : World) (A : Option Addr) (l : List Int) : Prop := Rds w 1 A l.length (encB l) ∧ ∀ x ∈ l, 0 ≤ x ∧ x < 256
theorem RB.ext {w w' : World} {A : Option Addr} {l : List Int} (h : RB w A l) (hE : Ext w w') : RB w' A l := ⟨h.1.ext hE, h.2⟩
theorem RB.at_ {w : World} {A : Option Addr} {l : List Int} (h : RB w A l) {k : Nat} (hk : k < l.length) : ∃ b off, A = some ⟨b, off, none⟩ ∧ b < w.heap.size ∧ w.cell? ⟨b, off + k, none⟩ = some (.int .u8 l[k]) ∧ 0 ≤ l[k] ∧ l[k] < 256 := by
  obtain ⟨b, off, e, hb, hc⟩ := h.1.2 (by omega)
  exact ⟨b, off, e, hb, hc _ _ (encB_get l k hk), h.2 _ (List.getElem_mem hk)⟩
/-- Block g is a cursor over the bytes l. -/
def Cur (w : World) (g : Nat) (l : List Int) : Prop := ∃ (A : Option Addr) (c i : Nat) (h : Int), i ≤ l.length ∧ Blk w g 102 [.slice A l.length c, .int .i64 i, .int .i64 h] ∧ RB w A l ∧ (0 < l.length → ∀ b off, A = some ⟨b, off, none⟩ → b < g)
theorem Cur.lt {w : World} {g : Nat} {l : List Int} (h : Cur w g l) : g < w.heap.size := by
  obtain ⟨A, c, i, h', _, hb, _⟩ := h
  exact hb.lt
theorem Cur.setk {w : World} {g : Nat} {l : List Int} (h : Cur w g l) {k : Nat} (hk : g < k) (o : Nat) (v : Value) : Cur (w.setCell ⟨k, o, none⟩ v) g l := by
  obtain ⟨A, c, i, h', h1, h2, h3, h4⟩ := h
  refine ⟨A, c, i, h', h1, h2.other (by omega) _, ⟨?_, h3.2⟩, h4⟩
  rcases Nat.eq_zero_or_pos l.length with e | e
  · exact ⟨h3.1.1, fun h => absurd h (by omega)⟩
  · exact h3.1.keep (by simp) (fun b off e1 _ _ => Below.heap_setCell _ _ _ _ (by have := h4 e b off e1; show b ≠ k; omega))
theorem Cur.ext {w w' : World} {g : Nat} {l : List Int} (h : Cur w g l) (hE : Ext w w') : Cur w' g l := by
  obtain ⟨A, c, i, h', h1, h2, h3, h4⟩ := h
  exact ⟨A, c, i, h', h1, h2.ext hE, h3.ext hE, h4⟩
theorem i64_and255 (n : Int) : bits .and .i64 n 255 = n % 256 := by
  have h255 : (BitVec.ofInt 64 255).toNat = 2 ^ 8 - 1 := by decide
  have key : (BitVec.ofInt 64 n &&& BitVec.ofInt 64 255).toNat = (n % ((2 ^ 64 : Nat) : Int)).toNat % 2 ^ 8 := by
    rw [BitVec.toNat_and, BitVec.toNat_ofInt, h255, Nat.and_two_pow_sub_one_eq_mod]
  show IntKind.i64.wrap ((BitVec.ofInt 64 n &&& BitVec.ofInt 64 255).toNat : Nat) = n % 256
  rw [key, IntKind.wrap_i64]
  omega
theorem i64_and30 (n : Int) : bits .and .i64 n 1073741823 = n % 1073741824 := by
  have h30 : (BitVec.ofInt 64 1073741823).toNat = 2 ^ 30 - 1 := by decide
  have key : (BitVec.ofInt 64 n &&& BitVec.ofInt 64 1073741823).toNat = (n % ((2 ^ 64 : Nat) : Int)).toNat % 2 ^ 30 := by
    rw [BitVec.toNat_and, BitVec.toNat_ofInt, h30, Nat.and_two_pow_sub_one_eq_mod]
  show IntKind.i64.wrap ((BitVec.ofInt 64 n &&& BitVec.ofInt 64 1073741823).toNat : Nat) = n % 1073741824
  rw [key, IntKind.wrap_i64]
  omega
theorem byte_in (n : Int) : 0 ≤ bits .and .i64 n 255 ∧ bits .and .i64 n 255 ≤ 255 := by rw [i64_and255]; omega
theorem grown_drew {w w' : World} {row : Option Nat} (h : w.grownBy w' row) : w.grownBy w'.drew row := ⟨h.os, h.tape, h.output, h.size, h.block⟩
theorem grown_drewN {w w' : World} {row : Option Nat} (h : w.grownBy w' row) (n : Nat) : w.grownBy (w'.drewN n) row := h.trans ⟨rfl, rfl, rfl, Nat.le_refl _, fun _ _ _ => rfl⟩
theorem grown_set {w w' : World} {g : Nat} (h : w.grownBy w' (some g)) (i : Nat) (v : Value) : w.grownBy (w'.setCell ⟨g, i, none⟩ v) (some g) :=
  h.trans ⟨rfl, rfl, rfl, by simp, fun k _ hk => Below.heap_setCell _ _ _ _ (fun e => hk (by rw [e]))⟩
theorem RB.grown {w w' : World} {g : Nat} {l : List Int} {A : Option Addr} (hr : RB w A l) (hne : 0 < l.length → ∀ b off, A = some ⟨b, off, none⟩ → b < g) (hg : w.grownBy w' (some g)) : RB w' A l := by
  refine ⟨?_, hr.2⟩
  rcases Nat.eq_zero_or_pos l.length with e | e
  · exact ⟨hr.1.1, fun h => absurd h (by omega)⟩
  · exact hr.1.grown hg (fun b off e1 e2 => by have := hne e b off e1; injection e2 with e2; omega)
theorem Cur.step {w w' : World} {g i' c : Nat} {l : List Int} {A : Option Addr} {h' : Int} (hr : RB w A l) (hne : 0 < l.length → ∀ b off, A = some ⟨b, off, none⟩ → b < g) (hi : i' ≤ l.length) (hg : w.grownBy w' (some g))
    (hb : Blk w' g 102 [.slice A l.length c, .int .i64 i', .int .i64 h']) : Cur w' g l :=
  ⟨A, c, i', h', hi, hb, hr.grown hne hg, hne⟩
theorem Blk.drewN {w : World} {g : Nat} {T : TypeId} {cs : List Value} (h : Blk w g T cs) (n : Nat) : Blk (w.drewN n) g T cs := h
set_option maxHeartbeats 1000000 in
theorem l01Byte_any (g : Nat) (l : List Int) (w : World) (hl : l.length ≤ 1048576) (hc : Cur w g l) :
    Calls Tryz.prog 99 #[.pointer (some ⟨g, 0, none⟩)] w fun e w' => ∃ x, e = .returned (.int .i64 x) ∧ 0 ≤ x ∧ x ≤ 255 ∧ Cur w' g l ∧ w.grownBy w' (some g) := by
  obtain ⟨A, c, i, h, hi, hb, hr, hne⟩ := hc
  have HB := hide hb
  have HR := hide hr
  have HN := hide hne
  have c0 := hb.cell 0
  have c1 := hb.cell 1
  have c2 := hb.cell 2
  simp at c0 c1 c2
  have cf := hb.free
  have cz := hb.lt
  clear hb hr hne
  by_cases hlt : i < l.length
  · obtain ⟨b, off, rfl, hbz, e0, e1, e2⟩ := HR.out.at_ hlt
    have n1 : b ≠ g := by have := HN.out (by omega) b off rfl; omega
    have n2 : g ≠ b := fun e => n1 e.symm
    go_enter Tryz.func99, Tryz.ntmps99
    go_wp2_with fail
    go_quiet (fail)
    go_wp2_with fail
    go_quiet (fail)
    go_wp2_with fail
    go_quiet (fail)
    go_wp2_with fail
    go_ret
    have E := fun n => grown_set (grown_drewN (grown_set (World.grownBy.refl w (some g)) 2 (.int .i64 (wrap64 (wrap64 (h * 6364136223846793005) + 1442695040888963407)))) n) 1 (.int .i64 ((i : Int) + 1))
    have F := fun n => ((HB.out.set 2 (.int .i64 (wrap64 (wrap64 (h * 6364136223846793005) + 1442695040888963407)))).drewN n).set 1 (.int .i64 ((i : Int) + 1))
    exact ⟨_, rfl, (byte_in _).1, (byte_in _).2, Cur.step (i' := i + 1) HR.out HN.out (by omega) (E _) (F _), E _⟩
  · obtain rfl : i = l.length := by omega
    go_enter Tryz.func99, Tryz.ntmps99
    go_wp2_with fail
    go_quiet (fail)
    go_wp2_with fail
    go_quiet (fail)
    go_wp2_with fail
    go_ret
    have E := fun n m => grown_drewN (grown_drewN (grown_set (World.grownBy.refl w (some g)) 2 (.int .i64 (wrap64 (wrap64 (h * 6364136223846793005) + 1442695040888963407)))) n) m
    have F := fun n m => ((HB.out.set 2 (.int .i64 (wrap64 (wrap64 (h * 6364136223846793005) + 1442695040888963407)))).drewN n).drewN m
    exact ⟨_, rfl, (byte_in _).1, (byte_in _).2, Cur.step (i' := l.length) HR.out HN.out (Nat.le_refl _) (E _ _) (F _ _), E _ _⟩
theorem l01Below_any (g : Nat) (n : Int) (l : List Int) (w : World) (hl : l.length ≤ 1048576) (hn : 1 ≤ n) (hn' : n ≤ 256) (hc : Cur w g l) :
    Calls Tryz.prog 58 #[.pointer (some ⟨g, 0, none⟩), .int .i64 n] w fun e w' => ∃ x, e = .returned (.int .i64 x) ∧ 0 ≤ x ∧ x < n ∧ Cur w' g l ∧ w.grownBy w' (some g) := by
  have HC := hide hc
  clear hc
  go_enter Tryz.func58, Tryz.ntmps58
  go_wp2_with fail
  refine (l01Byte_any g l _ hl HC.out).mono ?_; rintro e w1 ⟨x, rfl, hx0, hx1, hc1, hg1⟩
  have H1 := hide hc1
  have G1 := hide hg1
  clear hc1 hg1
  have m0 : 0 ≤ x % n := Int.emod_nonneg _ (by omega)
  have m1 : x % n < n := Int.emod_lt_of_pos _ (by omega)
  go_wp2_with fail
  go_ret
  exact ⟨_, rfl, m0, m1, H1.out, G1.out⟩
set_option maxHeartbeats 1000000 in
theorem l01New_any (l : List Int) (A : Option Addr) (c : Nat) (w : World) (hl : l.length ≤ 1048576) (hr : RB w A l) :
    Calls Tryz.prog 42 #[.slice A l.length c] w fun e w' => ∃ g, e = .returned (.pointer (some ⟨g, 0, none⟩)) ∧ w.heap.size ≤ g ∧ Cur w' g l ∧ Ext w w' := by
  have HR := hide hr
  clear hr
  go_enter Tryz.func42, Tryz.ntmps42
  go_wp2_with fail
  go_loopw [3, 4] (fun h i wr => ∃ (k : Nat) (x : Int), k ≤ l.length ∧ i = .int .i64 k ∧ h = .int .i64 x ∧ 0 ≤ x ∧ x ≤ 1100000000 ∧ Ext w wr) (fun _ i _ => l.length - (intOf i).toNat)
  case atStart => exact ⟨0, _, Nat.zero_le _, rfl, rfl, by omega, by omega, Ext.refl _⟩
  case round =>
    obtain ⟨k, x, hk, rfl, rfl, hx0, hx1, hE⟩ := hrel
    have HE := hide hE
    by_cases hlt : k < l.length
    · obtain ⟨b, off, rfl, hb, e0, e1, e2⟩ := (HR.out.ext hE).at_ hlt
      by_cases h4 : (k : Int) < 4000
      · have B := i64_and30 (x * 131 + l[k] + 7)
        have HB := hide B
        clear B hE
        go_wp2_with fail
        go_roundw
        case rel => exact ⟨k + 1, _, by omega, by go_num, rfl, by rw [HB.out]; omega, by rw [HB.out]; omega, HE.out⟩
        case measure => simp [intOf]; omega
      · go_wp2_with fail
        go_ret
        exact ⟨_, rfl, HE.out.size, ⟨_, c, 0, x, Nat.zero_le _, Blk.new wr _ [_, _, _], HR.out.ext (HE.out.alloc _), fun h0 b off e => by
          obtain ⟨b', off', e', hb', _⟩ := HR.out.at_ h0
          rw [e'] at e
          injection e with e
          injection e with e _ _
          have := HE.out.size
          omega⟩, HE.out.alloc _⟩
    · go_wp2_with fail
      go_ret
      exact ⟨_, rfl, HE.out.size, ⟨_, c, 0, x, Nat.zero_le _, Blk.new wr _ [_, _, _], HR.out.ext (HE.out.alloc _), fun h0 b off e => by
        obtain ⟨b', off', e', hb', _⟩ := HR.out.at_ h0
        rw [e'] at e
        injection e with e
        injection e with e _ _
        have := HE.out.size
        omega⟩, HE.out.alloc _⟩
end Go.Proofs.YtabgcpoaepafjaaGreat
