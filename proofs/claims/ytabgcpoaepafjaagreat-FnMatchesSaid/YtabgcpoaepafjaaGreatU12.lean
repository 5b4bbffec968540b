/- Words and walks for the law FnMatches, a part of them. No condition but that the arguments lie in memory. -/
import Derived.Test.YtabgcpoaepafjaaGreatU2
import Derived.Test.YtabgcpoaepafjaaGreatU11
import Derived.ArgAppend
set_option linter.unusedVariables false
set_option linter.unusedSimpArgs false
namespace Go.Proofs.YtabgcpoaepafjaaGreat
def shN (k : Nat) : List P2 := if k = 0 then [(0, 0), (8, 0), (8, 8), (0, 8), (4, 4)] else if k = 1 then [(0, 0), (12, 0), (4, 12), (4, 3), (7, 3), (5, 6)]
  else if k = 2 then [(0, 0), (4, 0), (8, 0), (12, 0), (0, 5), (4, 5), (8, 5), (12, 5), (0, 9), (4, 9), (8, 9), (12, 9)]
  else if k = 3 then [(6, 6), (6, 0), (12, 4), (10, 11), (2, 11), (0, 4)] else [(0, 0), (3, 0), (3, 3), (0, 3), (6, 1), (9, 1), (9, 5), (6, 5)]
def shE (k : Nat) : List P2 := if k = 0 then [(0, 1), (1, 2), (2, 3), (0, 3), (0, 4), (1, 4), (2, 4), (3, 4)] else if k = 1 then [(0, 1), (1, 2), (0, 2), (3, 4), (4, 5), (3, 5), (0, 3)]
  else if k = 2 then [(0, 1), (1, 2), (2, 3), (4, 5), (5, 6), (6, 7), (8, 9), (9, 10), (10, 11), (0, 4), (1, 5), (2, 6), (3, 7), (4, 8), (5, 9), (6, 10), (7, 11)]
  else if k = 3 then [(0, 1), (0, 2), (0, 3), (0, 4), (0, 5), (1, 2), (2, 3), (3, 4), (4, 5), (1, 5)] else [(0, 1), (1, 2), (2, 3), (0, 3), (4, 5), (5, 6), (6, 7), (4, 7)]
def allTo (n : Nat) (p : Nat → Bool) : Bool := (List.range n).all p
theorem allTo_iff {n : Nat} {p : Nat → Bool} : allTo n p = true ↔ ∀ i, i < n → p i = true := by simp [allTo]
def winT (N E : List P2) : Bool := decide (1 ≤ N.length ∧ N.length ≤ 12) && decide (E.length ≤ 20) &&
  allTo N.length (fun j => nodeOk (at2 N j) && allTo j fun i => !decide (at2 N i = at2 N j)) &&
  allTo E.length (fun j => leadOk N (at2 E j) && allTo j (fun i => !crossB N (at2 E i) (at2 E j)) && allTo N.length fun i => decide ((i : Int) = (at2 E j).1) || decide ((i : Int) = (at2 E j).2) || !onLead N (at2 E j) (at2 N i))
theorem winT_ok {N E : List P2} (h : winT N E = true) : WinOk N E := by
  unfold winT at h
  simp only [Bool.and_eq_true, decide_eq_true_eq, allTo_iff, Bool.not_eq_true', decide_eq_false_iff_not, Bool.or_eq_true] at h
  obtain ⟨⟨⟨h1, h2⟩, h3⟩, h4⟩ := h
  refine ⟨h1, h2, fun j hj => h3 j hj, fun j hj => ?_⟩
  obtain ⟨⟨a, b⟩, c⟩ := h4 j hj
  refine ⟨a, b, fun i hi n1 n2 => ?_⟩
  rcases c i hi with (q | q) | q
  · exact absurd q n1
  · exact absurd q n2
  · exact q
def wholeT (N E : List P2) : Bool := winT N E && decide (0 < E.length) && decide ((memN (it (spreadTo E E.length) N.length 1) N.length).length = N.length)
theorem wholeT_ok {N E : List P2} (h : wholeT N E = true) : wholeB N E = true := by
  unfold wholeT at h
  simp only [Bool.and_eq_true, decide_eq_true_eq] at h
  obtain ⟨⟨h1, h2⟩, h3⟩ := h
  have hw := winT_ok h1
  refine wholeB_iff.2 ⟨hw, h2, (whole_spread (by have := hw.n; omega) fun j hj => ?_).1 h3⟩
  have hl := (leadOk_iff.1 (hw.leads j hj).1).1
  omega
theorem sh_whole {k : Nat} (h : k < 4) : wholeB (shN k) (shE k) = true := by
  apply wholeT_ok
  match k, h with
  | 0, _ => decide +kernel
  | 1, _ => decide +kernel
  | 2, _ => decide +kernel
  | 3, _ => decide +kernel
theorem sh_win {k : Nat} (h : k < 5) : WinOk (shN k) (shE k) := by
  apply winT_ok
  match k, h with
  | 0, _ => decide +kernel
  | 1, _ => decide +kernel
  | 2, _ => decide +kernel
  | 3, _ => decide +kernel
  | 4, _ => decide +kernel
theorem sh_size {k : Nat} (h : k < 5) : 5 ≤ (shN k).length ∧ 7 ≤ (shE k).length ∧ (shE k).length ≤ (shN k).length + 5 ∧ (shN k).length ≤ 12 := by
  match k, h with
  | 0, _ => decide
  | 1, _ => decide
  | 2, _ => decide
  | 3, _ => decide
  | 4, _ => decide
end Go.Proofs.YtabgcpoaepafjaaGreat
namespace Go.Proofs.YtabgcpoaepafjaaGreat
open Go.RowKit
def encB (l : List Int) : List Value := l.map (.int .u8)
theorem encB_length (l : List Int) : (encB l).length = l.length := by simp [encB]
theorem encB_get (l : List Int) (k : Nat) (h : k < l.length) : (encB l)[k]? = some (.int .u8 l[k]) := by simp [encB, h]
/-- The slice reads as the bytes l. -/
def RB (w : World) (A : Option Addr) (l : List Int) : Prop := Rds w 1 A l.length (encB l) ∧ ∀ x ∈ l, 0 ≤ x ∧ x < 256
theorem RB.ext {w w' : World} {A : Option Addr} {l : List Int} (h : RB w A l) (hE : Ext w w') : RB w' A l := ⟨h.1.ext hE, h.2⟩
theorem RB.at_ {w : World} {A : Option Addr} {l : List Int} (h : RB w A l) {k : Nat} (hk : k < l.length) : ∃ b off, A = some ⟨b, off, none⟩ ∧ b < w.heap.size ∧ w.cell? ⟨b, off + k, none⟩ = some (.int .u8 l[k]) ∧ 0 ≤ l[k] ∧ l[k] < 256 := by
  obtain ⟨b, off, e, hb, hc⟩ := h.1.2 (by omega)
  exact ⟨b, off, e, hb, hc _ _ (encB_get l k hk), h.2 _ (List.getElem_mem hk)⟩
/-- Block g is a cursor over the bytes l. -/
def Cur (w : World) (g : Nat) (l : List Int) : Prop := ∃ (A : Option Addr) (c i : Nat) (h : Int), i ≤ l.length ∧ Blk w g 102 [.slice A l.length c, .int .i64 i, .int .i64 h] ∧ RB w A l ∧ (0 < l.length → ∀ b off, A = some ⟨b, off, none⟩ → b < g)
theorem Cur.lt {w : World} {g : Nat} {l : List Int} (h : Cur w g l) : g < w.heap.size := by
  obtain ⟨A, c, i, h', _, hb, _⟩ := h
  exact hb.lt
theorem Cur.setk {w : World} {g : Nat} {l : List Int} (h : Cur w g l) {k : Nat} (hk : g < k) (o : Nat) (v : Value) : Cur (w.setCell ⟨k, o, none⟩ v) g l := by
  obtain ⟨A, c, i, h', h1, h2, h3, h4⟩ := h
  refine ⟨A, c, i, h', h1, h2.other (by omega) _, ⟨?_, h3.2⟩, h4⟩
  rcases Nat.eq_zero_or_pos l.length with e | e
  · exact ⟨h3.1.1, fun h => absurd h (by omega)⟩
  · exact h3.1.keep (by simp) (fun b off e1 _ _ => Below.heap_setCell _ _ _ _ (by have := h4 e b off e1; show b ≠ k; omega))
theorem Cur.ext {w w' : World} {g : Nat} {l : List Int} (h : Cur w g l) (hE : Ext w w') : Cur w' g l := by
  obtain ⟨A, c, i, h', h1, h2, h3, h4⟩ := h
  exact ⟨A, c, i, h', h1, h2.ext hE, h3.ext hE, h4⟩
theorem i64_and255 (n : Int) : bits .and .i64 n 255 = n % 256 := by
  have h255 : (BitVec.ofInt 64 255).toNat = 2 ^ 8 - 1 := by decide
  have key : (BitVec.ofInt 64 n &&& BitVec.ofInt 64 255).toNat = (n % ((2 ^ 64 : Nat) : Int)).toNat % 2 ^ 8 := by
    rw [BitVec.toNat_and, BitVec.toNat_ofInt, h255, Nat.and_two_pow_sub_one_eq_mod]
  show IntKind.i64.wrap ((BitVec.ofInt 64 n &&& BitVec.ofInt 64 255).toNat : Nat) = n % 256
  rw [key, IntKind.wrap_i64]
  omega
theorem i64_and30 (n : Int) : bits .and .i64 n 1073741823 = n % 1073741824 := by
  have h30 : (BitVec.ofInt 64 1073741823).toNat = 2 ^ 30 - 1 := by decide
  have key : (BitVec.ofInt 64 n &&& BitVec.ofInt 64 1073741823).toNat = (n % ((2 ^ 64 : Nat) : Int)).toNat % 2 ^ 30 := by
    rw [BitVec.toNat_and, BitVec.toNat_ofInt, h30, Nat.and_two_pow_sub_one_eq_mod]
  show IntKind.i64.wrap ((BitVec.ofInt 64 n &&& BitVec.ofInt 64 1073741823).toNat : Nat) = n % 1073741824
  rw [key, IntKind.wrap_i64]
  omega
theorem byte_in (n : Int) : 0 ≤ bits .and .i64 n 255 ∧ bits .and .i64 n 255 ≤ 255 := by rw [i64_and255]; omega
theorem grown_drewN {w w' : World} {row : Option Nat} (h : w.grownBy w' row) (n : Nat) : w.grownBy (w'.drewN n) row := h.trans ⟨rfl, rfl, rfl, Nat.le_refl _, fun _ _ _ => rfl⟩
theorem grown_set {w w' : World} {g : Nat} (h : w.grownBy w' (some g)) (i : Nat) (v : Value) : w.grownBy (w'.setCell ⟨g, i, none⟩ v) (some g) :=
  h.trans ⟨rfl, rfl, rfl, by simp, fun k _ hk => Below.heap_setCell _ _ _ _ (fun e => hk (by rw [e]))⟩
theorem RB.grown {w w' : World} {g : Nat} {l : List Int} {A : Option Addr} (hr : RB w A l) (hne : 0 < l.length → ∀ b off, A = some ⟨b, off, none⟩ → b < g) (hg : w.grownBy w' (some g)) : RB w' A l := by
  refine ⟨?_, hr.2⟩
  rcases Nat.eq_zero_or_pos l.length with e | e
  · exact ⟨hr.1.1, fun h => absurd h (by omega)⟩
  · exact hr.1.grown hg (fun b off e1 e2 => by have := hne e b off e1; injection e2 with e2; omega)
theorem Cur.step {w w' : World} {g i' c : Nat} {l : List Int} {A : Option Addr} {h' : Int} (hr : RB w A l) (hne : 0 < l.length → ∀ b off, A = some ⟨b, off, none⟩ → b < g) (hi : i' ≤ l.length) (hg : w.grownBy w' (some g))
    (hb : Blk w' g 102 [.slice A l.length c, .int .i64 i', .int .i64 h']) : Cur w' g l :=
  ⟨A, c, i', h', hi, hb, hr.grown hne hg, hne⟩
theorem Blk.drewN {w : World} {g : Nat} {T : TypeId} {cs : List Value} (h : Blk w g T cs) (n : Nat) : Blk (w.drewN n) g T cs := h
set_option maxHeartbeats 1000000 in
theorem l01Byte_any (g : Nat) (l : List Int) (w : World) (hl : l.length ≤ 1048576) (hc : Cur w g l) :
    Calls Tryz.prog 99 #[.pointer (some ⟨g, 0, none⟩)] w fun e w' => ∃ x, e = .returned (.int .i64 x) ∧ 0 ≤ x ∧ x ≤ 255 ∧ Cur w' g l ∧ w.grownBy w' (some g) := by
  obtain ⟨A, c, i, h, hi, hb, hr, hne⟩ := hc
  have HB := hide hb
  have HR := hide hr
  have HN := hide hne
  have c0 := hb.cell 0
  have c1 := hb.cell 1
  have c2 := hb.cell 2
  simp at c0 c1 c2
  have cf := hb.free
  have cz := hb.lt
  clear hb hr hne
  by_cases hlt : i < l.length
  · obtain ⟨b, off, rfl, hbz, e0, e1, e2⟩ := HR.out.at_ hlt
    have n1 : b ≠ g := by have := HN.out (by omega) b off rfl; omega
    have n2 : g ≠ b := fun e => n1 e.symm
    go_enter Tryz.func99, Tryz.ntmps99
    go_wp2_with fail
    go_quiet (fail)
    go_wp2_with fail
    go_quiet (fail)
    go_wp2_with fail
    go_quiet (fail)
    go_wp2_with fail
    go_ret
    have E := fun n => grown_set (grown_drewN (grown_set (World.grownBy.refl w (some g)) 2 (.int .i64 (wrap64 (wrap64 (h * 6364136223846793005) + 1442695040888963407)))) n) 1 (.int .i64 ((i : Int) + 1))
    have F := fun n => ((HB.out.set 2 (.int .i64 (wrap64 (wrap64 (h * 6364136223846793005) + 1442695040888963407)))).drewN n).set 1 (.int .i64 ((i : Int) + 1))
    exact ⟨_, rfl, (byte_in _).1, (byte_in _).2, Cur.step (i' := i + 1) HR.out HN.out (by omega) (E _) (F _), E _⟩
  · obtain rfl : i = l.length := by omega
    go_enter Tryz.func99, Tryz.ntmps99
    go_wp2_with fail
    go_quiet (fail)
    go_wp2_with fail
    go_quiet (fail)
    go_wp2_with fail
    go_ret
    have E := fun n m => grown_drewN (grown_drewN (grown_set (World.grownBy.refl w (some g)) 2 (.int .i64 (wrap64 (wrap64 (h * 6364136223846793005) + 1442695040888963407)))) n) m
    have F := fun n m => ((HB.out.set 2 (.int .i64 (wrap64 (wrap64 (h * 6364136223846793005) + 1442695040888963407)))).drewN n).drewN m
    exact ⟨_, rfl, (byte_in _).1, (byte_in _).2, Cur.step (i' := l.length) HR.out HN.out (Nat.le_refl _) (E _ _) (F _ _), E _ _⟩
theorem l01Below_any (g : Nat) (n : Int) (l : List Int) (w : World) (hl : l.length ≤ 1048576) (hn : 1 ≤ n) (hn' : n ≤ 256) (hc : Cur w g l) :
    Calls Tryz.prog 58 #[.pointer (some ⟨g, 0, none⟩), .int .i64 n] w fun e w' => ∃ x, e = .returned (.int .i64 x) ∧ 0 ≤ x ∧ x < n ∧ Cur w' g l ∧ w.grownBy w' (some g) := by
  have HC := hide hc
  clear hc
  go_enter Tryz.func58, Tryz.ntmps58
  go_wp2_with fail
  refine (l01Byte_any g l _ hl HC.out).mono ?_; rintro e w1 ⟨x, rfl, hx0, hx1, hc1, hg1⟩
  have H1 := hide hc1
  have G1 := hide hg1
  clear hc1 hg1
  have m0 : 0 ≤ x % n := Int.emod_nonneg _ (by omega)
  have m1 : x % n < n := Int.emod_lt_of_pos _ (by omega)
  go_wp2_with fail
  go_ret
  exact ⟨_, rfl, m0, m1, H1.out, G1.out⟩
set_option maxHeartbeats 1000000 in
theorem l01New_any (l : List Int) (A : Option Addr) (c : Nat) (w : World) (hl : l.length ≤ 1048576) (hr : RB w A l) :
    Calls Tryz.prog 42 #[.slice A l.length c] w fun e w' => ∃ g, e = .returned (.pointer (some ⟨g, 0, none⟩)) ∧ w.heap.size ≤ g ∧ Cur w' g l ∧ Ext w w' := by
  have HR := hide hr
  clear hr
  go_enter Tryz.func42, Tryz.ntmps42
  go_wp2_with fail
  go_loopw [3, 4] (fun h i wr => ∃ (k : Nat) (x : Int), k ≤ l.length ∧ i = .int .i64 k ∧ h = .int .i64 x ∧ 0 ≤ x ∧ x ≤ 1100000000 ∧ Ext w wr) (fun _ i _ => l.length - (intOf i).toNat)
  case atStart => exact ⟨0, _, Nat.zero_le _, rfl, rfl, by omega, by omega, Ext.refl _⟩
  case round =>
    obtain ⟨k, x, hk, rfl, rfl, hx0, hx1, hE⟩ := hrel
    have HE := hide hE
    by_cases hlt : k < l.length
    · obtain ⟨b, off, rfl, hb, e0, e1, e2⟩ := (HR.out.ext hE).at_ hlt
      by_cases h4 : (k : Int) < 4000
      · have B := i64_and30 (x * 131 + l[k] + 7)
        have HB := hide B
        clear B hE
        go_wp2_with fail
        go_roundw
        case rel => exact ⟨k + 1, _, by omega, by go_num, rfl, by rw [HB.out]; omega, by rw [HB.out]; omega, HE.out⟩
        case measure => simp [intOf]; omega
      · go_wp2_with fail
        go_ret
        exact ⟨_, rfl, HE.out.size, ⟨_, c, 0, x, Nat.zero_le _, Blk.new wr _ [_, _, _], HR.out.ext (HE.out.alloc _), fun h0 b off e => by
          obtain ⟨b', off', e', hb', _⟩ := HR.out.at_ h0
          rw [e'] at e
          injection e with e
          injection e with e _ _
          have := HE.out.size
          omega⟩, HE.out.alloc _⟩
    · go_wp2_with fail
      go_ret
      exact ⟨_, rfl, HE.out.size, ⟨_, c, 0, x, Nat.zero_le _, Blk.new wr _ [_, _, _], HR.out.ext (HE.out.alloc _), fun h0 b off e => by
        obtain ⟨b', off', e', hb', _⟩ := HR.out.at_ h0
        rw [e'] at e
        injection e with e
        injection e with e _ _
        have := HE.out.size
        omega⟩, HE.out.alloc _⟩
end Go.Proofs.YtabgcpoaepafjaaGreat
namespace Go.Proofs.YtabgcpoaepafjaaGreat
open Go.RowKit
theorem nodeI_info : (Tryz.prog.info? 84).map (fun i => (i.zero, i.size, i.bytes)) = some (some (.agg #[.int .i64 0, .int .i64 0]), 2, 16) := by kernel_rfl
theorem leadI_info : (Tryz.prog.info? 110).map (fun i => (i.zero, i.size, i.bytes)) = some (some (.agg #[.int .i64 0, .int .i64 0]), 2, 16) := by kernel_rfl
/-- A window of the call's own: nodes and leads in rows of their own, in blocks from base on. -/
structure WO (w : World) (base : Nat) (N E : List P2) (A B : Option Addr) (c c' : Nat) : Prop where
  nodes : w.ownsRow base 84 2 (.slice A N.length c) N.length (enc2 N)
  leads : w.ownsRow base 110 2 (.slice B E.length c') E.length (enc2 E)
  apart : ∀ k, (Value.slice A N.length c).ownBlock = some k → (Value.slice B E.length c').ownBlock ≠ some k
section
variable {w w' : World} {base : Nat} {N E : List P2} {A B : Option Addr} {c c' : Nat}
theorem WO.mono {b : Nat} (h : WO w base N E A B c c') (hb : b ≤ base) : WO w b N E A B c c' := ⟨own_mono h.nodes hb, own_mono h.leads hb, h.apart⟩
theorem WO.ext (h : WO w base N E A B c c') (hE : Ext w w') : WO w' base N E A B c c' := ⟨own_ext h.nodes hE, own_ext h.leads hE, h.apart⟩
theorem WO.grown {g : Nat} (h : WO w base N E A B c c') (hg : w.grownBy w' (some g)) (hb : g < base) : WO w' base N E A B c c' :=
  ⟨h.nodes.kept hg (.inr fun e => by have := (h.nodes.lt g e).1; omega), h.leads.kept hg (.inr fun e => by have := (h.leads.lt g e).1; omega), h.apart⟩
theorem WO.setk {k o : Nat} {v : Value} (h : WO w base N E A B c c') (hb : k < base) : WO (w.setCell ⟨k, o, none⟩ v) base N E A B c c' :=
  h.grown (g := k) ⟨rfl, rfl, rfl, by simp, fun q _ hk => Below.heap_setCell _ _ _ _ (fun e => hk (by rw [e]))⟩ hb
theorem WO.wr (h : WO w base N E A B c c') (hN : N.length ≤ 1048576) (hE : E.length ≤ 1048576) : WR w N E A B c c' := by
  obtain ⟨_, _, e1, h1, _⟩ := own_slice h.nodes
  obtain ⟨_, _, e2, h2, _⟩ := own_slice h.leads
  injection e1 with _ _ e1
  injection e2 with _ _ e2
  exact ⟨hN, hE, by omega, by omega, Rds.of_own h.nodes, Rds.of_own h.leads⟩
theorem WO_two (W : World) (N E : List P2) {base : Nat} (hb : base ≤ W.heap.size) (hN : N.length ≤ 1000) (hE : E.length ≤ 1000) :
    WO ((W.alloc (.cells (enc2 N).toArray 84)).alloc (.cells (enc2 E).toArray 110)) base N E (some ⟨W.heap.size, 0, none⟩) (some ⟨W.heap.size + 1, 0, none⟩) N.length E.length := by
  have h1 := World.ownsRow_lit (base := base) (e := 84) (size := 2) W (enc2 N).toArray N.length hb (by unfold maxLen; omega) (by simp [enc2_length])
  have h2 := World.ownsRow_lit (base := base) (e := 110) (size := 2) (W.alloc (.cells (enc2 N).toArray 84)) (enc2 E).toArray E.length (by simp; omega) (by unfold maxLen; omega) (by simp [enc2_length])
  refine ⟨own_ext (by simpa using h1) ((Ext.refl _).alloc _), by simpa using h2, fun k e e2 => ?_⟩
  simp [Value.ownBlock] at e e2
  omega
end
set_option maxRecDepth 20000 in
set_option maxHeartbeats 4000000 in
theorem SampleWindow_any (w : World) : Calls Tryz.prog 130 #[] w fun e w' => ∃ A B c c', e = .returned (.agg #[.slice A (shN 0).length c, .slice B (shE 0).length c']) ∧ WO w' w.heap.size (shN 0) (shE 0) A B c c' ∧ Ext w w' := by
  
  go_enter Tryz.func130, Tryz.ntmps130
  go_wp2_with fail
  refine bodyPost_ret (v := .agg #[.slice (some ⟨w.heap.size + 1, 0, none⟩) 5 5, .slice (some ⟨w.heap.size + 1 + 1, 0, none⟩) 8 8]) (by simp only [results, Tryz.results130]; go_simp) rfl ⟨_, _, 5, 8, rfl, ?_, by repeat (first | exact kE | exact Ext.refl _ | apply Ext.alloc | apply Ext.drewN | apply Ext.drew | apply Ext.set0 | apply Ext.set1 | apply Ext.set2 | apply Ext.set3 | (refine Ext.setk ?_ (by omega) _) | (apply Ext.snoc; assumption))⟩
  have h := WO_two (base := w.heap.size) (w.alloc (Obj.cells #[Value.slice (some ⟨w.heap.size + 1, 0, none⟩) 5 5, Value.slice (some ⟨w.heap.size + 1 + 1, 0, none⟩) 8 8] 27)) (shN 0) (shE 0) (by simp) (by decide) (by decide)
  simp only [World.size_alloc] at h
  exact h
set_option maxRecDepth 20000 in
set_option maxHeartbeats 4000000 in
theorem l04Shape_0 (w : World) : Calls Tryz.prog 113 #[.int .i64 0] w fun e w' => ∃ A B c c', e = .returned (.agg #[.slice A (shN 0).length c, .slice B (shE 0).length c']) ∧ WO w' w.heap.size (shN 0) (shE 0) A B c c' ∧ Ext w w' := by
  
  go_enter Tryz.func113, Tryz.ntmps113
  go_wp2_with fail
  obtain ⟨w0, hw⟩ : ∃ w1, w1 = w.alloc (Obj.cells #[Value.slice none 0 0, Value.slice none 0 0] 27) := ⟨_, rfl⟩; rw [← hw]; have kT : Tr [(w.heap.size, [.slice none 0 0, .slice none 0 0])] w w0 := (by rw [hw]; exact ⟨by (first | (simp [Bx, CellsAt, go_sem, *]; done) | (simp [Bx, CellsAt, go_sem, *]; omega)), by (repeat (first | exact kE | exact Ext.refl _ | apply Ext.alloc | apply Ext.drewN | apply Ext.drew | apply Ext.set0 | apply Ext.set1 | apply Ext.set2 | apply Ext.set3 | (refine Ext.setk ?_ (by omega) _) | (apply Ext.snoc; assumption)))⟩); have HT := hide kT; clear hw kT; have kT := HT.out; simp only [Tr, Bx, CellsAt, Nat.reduceAdd, Nat.zero_add, and_true] at kT; obtain ⟨⟨kz0, kf0, kc0_0, kc0_1⟩, kE⟩ := kT
  have HZ := hide kz0
  refine (SampleWindow_any w0).mono ?_
  rintro e w1 ⟨A, B, c, c', rfl, ho, hb⟩
  have HO := hide ho
  have HT' := hide (HT.out.ext hb)
  clear ho hb HT
  have HT := HT'
  clear HT'
  clear kz0 kf0 kc0_0 kc0_1 kE
  have kT := HT.out; simp only [Tr, Bx, CellsAt, Nat.reduceAdd, Nat.zero_add, and_true] at kT; obtain ⟨⟨kz0, kf0, kc0_0, kc0_1⟩, kE⟩ := kT
  go_wp2_with fail
  refine bodyPost_ret (v := .agg #[.slice A (shN 0).length c, .slice B (shE 0).length c']) (by simp only [results, Tryz.results113]; go_simp) rfl ⟨_, _, _, _, rfl, ((HO.out.setk HZ.out).setk HZ.out).mono (Nat.le_of_lt HZ.out), ?_⟩
  exact (kE.setk (Nat.le_refl _) _).setk (Nat.le_refl _) _
set_option maxRecDepth 20000 in
set_option maxHeartbeats 4000000 in
theorem l04Shape_1 (w : World) : Calls Tryz.prog 113 #[.int .i64 1] w fun e w' => ∃ A B c c', e = .returned (.agg #[.slice A (shN 1).length c, .slice B (shE 1).length c']) ∧ WO w' w.heap.size (shN 1) (shE 1) A B c c' ∧ Ext w w' := by
  
  go_enter Tryz.func113, Tryz.ntmps113
  go_wp2_with fail
  refine bodyPost_ret (v := .agg #[.slice (some ⟨w.heap.size + 1, 0, none⟩) 6 6, .slice (some ⟨w.heap.size + 1 + 1, 0, none⟩) 7 7]) (by simp only [results, Tryz.results113]; go_simp) rfl ⟨_, _, 6, 7, rfl, ?_, by repeat (first | exact kE | exact Ext.refl _ | apply Ext.alloc | apply Ext.drewN | apply Ext.drew | apply Ext.set0 | apply Ext.set1 | apply Ext.set2 | apply Ext.set3 | (refine Ext.setk ?_ (by omega) _) | (apply Ext.snoc; assumption))⟩
  have h := WO_two (base := w.heap.size) (w.alloc (Obj.cells #[Value.slice (some ⟨w.heap.size + 1, 0, none⟩) 6 6, Value.slice (some ⟨w.heap.size + 1 + 1, 0, none⟩) 7 7] 27)) (shN 1) (shE 1) (by simp) (by decide) (by decide)
  simp only [World.size_alloc] at h
  exact h
set_option maxRecDepth 20000 in
set_option maxHeartbeats 4000000 in
theorem l04Shape_2 (w : World) : Calls Tryz.prog 113 #[.int .i64 2] w fun e w' => ∃ A B c c', e = .returned (.agg #[.slice A (shN 2).length c, .slice B (shE 2).length c']) ∧ WO w' w.heap.size (shN 2) (shE 2) A B c c' ∧ Ext w w' := by
  
  go_enter Tryz.func113, Tryz.ntmps113
  go_wp2_with fail
  refine bodyPost_ret (v := .agg #[.slice (some ⟨w.heap.size + 1, 0, none⟩) 12 12, .slice (some ⟨w.heap.size + 1 + 1, 0, none⟩) 17 17]) (by simp only [results, Tryz.results113]; go_simp) rfl ⟨_, _, 12, 17, rfl, ?_, by repeat (first | exact kE | exact Ext.refl _ | apply Ext.alloc | apply Ext.drewN | apply Ext.drew | apply Ext.set0 | apply Ext.set1 | apply Ext.set2 | apply Ext.set3 | (refine Ext.setk ?_ (by omega) _) | (apply Ext.snoc; assumption))⟩
  have h := WO_two (base := w.heap.size) (w.alloc (Obj.cells #[Value.slice (some ⟨w.heap.size + 1, 0, none⟩) 12 12, Value.slice (some ⟨w.heap.size + 1 + 1, 0, none⟩) 17 17] 27)) (shN 2) (shE 2) (by simp) (by decide) (by decide)
  simp only [World.size_alloc] at h
  exact h
set_option maxRecDepth 20000 in
set_option maxHeartbeats 4000000 in
theorem l04Shape_3 (w : World) : Calls Tryz.prog 113 #[.int .i64 3] w fun e w' => ∃ A B c c', e = .returned (.agg #[.slice A (shN 3).length c, .slice B (shE 3).length c']) ∧ WO w' w.heap.size (shN 3) (shE 3) A B c c' ∧ Ext w w' := by
  
  go_enter Tryz.func113, Tryz.ntmps113
  go_wp2_with fail
  refine bodyPost_ret (v := .agg #[.slice (some ⟨w.heap.size + 1, 0, none⟩) 6 6, .slice (some ⟨w.heap.size + 1 + 1, 0, none⟩) 10 10]) (by simp only [results, Tryz.results113]; go_simp) rfl ⟨_, _, 6, 10, rfl, ?_, by repeat (first | exact kE | exact Ext.refl _ | apply Ext.alloc | apply Ext.drewN | apply Ext.drew | apply Ext.set0 | apply Ext.set1 | apply Ext.set2 | apply Ext.set3 | (refine Ext.setk ?_ (by omega) _) | (apply Ext.snoc; assumption))⟩
  have h := WO_two (base := w.heap.size) (w.alloc (Obj.cells #[Value.slice (some ⟨w.heap.size + 1, 0, none⟩) 6 6, Value.slice (some ⟨w.heap.size + 1 + 1, 0, none⟩) 10 10] 27)) (shN 3) (shE 3) (by simp) (by decide) (by decide)
  simp only [World.size_alloc] at h
  exact h
set_option maxRecDepth 20000 in
set_option maxHeartbeats 4000000 in
theorem l04Shape_4 (w : World) : Calls Tryz.prog 113 #[.int .i64 4] w fun e w' => ∃ A B c c', e = .returned (.agg #[.slice A (shN 4).length c, .slice B (shE 4).length c']) ∧ WO w' w.heap.size (shN 4) (shE 4) A B c c' ∧ Ext w w' := by
  
  go_enter Tryz.func113, Tryz.ntmps113
  go_wp2_with fail
  refine bodyPost_ret (v := .agg #[.slice (some ⟨w.heap.size + 1, 0, none⟩) 8 8, .slice (some ⟨w.heap.size + 1 + 1, 0, none⟩) 8 8]) (by simp only [results, Tryz.results113]; go_simp) rfl ⟨_, _, 8, 8, rfl, ?_, by repeat (first | exact kE | exact Ext.refl _ | apply Ext.alloc | apply Ext.drewN | apply Ext.drew | apply Ext.set0 | apply Ext.set1 | apply Ext.set2 | apply Ext.set3 | (refine Ext.setk ?_ (by omega) _) | (apply Ext.snoc; assumption))⟩
  have h := WO_two (base := w.heap.size) (w.alloc (Obj.cells #[Value.slice (some ⟨w.heap.size + 1, 0, none⟩) 8 8, Value.slice (some ⟨w.heap.size + 1 + 1, 0, none⟩) 8 8] 27)) (shN 4) (shE 4) (by simp) (by decide) (by decide)
  simp only [World.size_alloc] at h
  exact h
theorem l04Shape_any (k : Nat) (hk : k < 5) (w : World) : Calls Tryz.prog 113 #[.int .i64 (k : Int)] w fun e w' => ∃ A B c c', e = .returned (.agg #[.slice A (shN k).length c, .slice B (shE k).length c']) ∧ WO w' w.heap.size (shN k) (shE k) A B c c' ∧ Ext w w' := by
  match k, hk with
  | 0, _ => exact l04Shape_0 w
  | 1, _ => exact l04Shape_1 w
  | 2, _ => exact l04Shape_2 w
  | 3, _ => exact l04Shape_3 w
  | 4, _ => exact l04Shape_4 w
end Go.Proofs.YtabgcpoaepafjaaGreat
namespace Go.Proofs.YtabgcpoaepafjaaGreat
open Go.RowKit
theorem one2n (a b : Int) : ∀ u ∈ [Value.int .i64 a, Value.int .i64 b], u.oneCell' = true := by intro u hu; simp at hu; rcases hu with rfl | rfl <;> rfl
theorem own_setk {w : World} {base n sz k o : Nat} {T : TypeId} {v : Value} {xs : List Value} (h : w.ownsRow base T sz v n xs) (hb : k < base) (u : Value) : (w.setCell ⟨k, o, none⟩ u).ownsRow base T sz v n xs :=
  h.kept (w' := w.setCell ⟨k, o, none⟩ u) (row := some k) ⟨rfl, rfl, rfl, by simp, fun q _ hk => Below.heap_setCell _ _ _ _ (fun e => hk (by rw [e]))⟩ (.inr fun e => by have := (h.lt k e).1; omega)
theorem own_apart2 {w : World} {b1 b2 n1 n2 s1 s2 : Nat} {T1 T2 : TypeId} {v1 v2 : Value} {x1 x2 : List Value} (h1 : w.ownsRow b1 T1 s1 v1 n1 x1) (h2 : w.ownsRow b2 T2 s2 v2 n2 x2) (hT : T1 ≠ T2) : ∀ k, v1.ownBlock = some k → v2.ownBlock ≠ some k := by
  intro k e1 e2
  rcases h1.2 with ⟨rfl, _⟩ | ⟨g1, c1, cur1, rfl, _, q1, _⟩
  · cases e1
  · rcases h2.2 with ⟨rfl, _⟩ | ⟨g2, c2, cur2, rfl, _, q2, _⟩
    · cases e2
    · have a1 : some g1 = some k := e1
      have a2 : some g2 = some k := e2
      injection a1 with a1
      injection a2 with a2
      subst a1 a2
      rw [q1] at q2
      injection q2 with q2
      injection q2 with _ q2
      exact hT q2
theorem news_rds {w : World} {b off : Nat} {xs : List Value} (h : ∀ j v, xs[j]? = some v → w.cell? ⟨b, off + j, none⟩ = some v) : ∀ j u, xs[j]? = some u → w.cell? ((⟨b, off, none⟩ : Addr).add j) = some u := fun j u hu => by
  have e : (⟨b, off, none⟩ : Addr).add j = ⟨b, off + j, none⟩ := by unfold Addr.add; split <;> simp_all
  rw [e]
  exact h j u hu
theorem stab_own (B : Nat) (T : TypeId) (s n : Nat) (xs : List Value) : Stab (fun v w => w.ownsRow B T s v n xs) := fun _ _ _ h hE => own_ext h hE
theorem stab_any (p : Value → Prop) : Stab (fun v _ => p v) := fun _ _ _ h _ => h
theorem l01Once_any (g : Nat) (n : Int) (l : List Int) (w : World) (hl : l.length ≤ 1048576) (hn : 1 ≤ n) (hn' : n ≤ 256) (hc : Cur w g l) :
    Calls Tryz.prog 80 #[.pointer (some ⟨g, 0, none⟩), .int .i64 n] w fun e w' => ∃ b, e = .returned (.bool b) ∧ Cur w' g l ∧ w.grownBy w' (some g) := by
  have HC := hide hc
  clear hc
  go_enter Tryz.func80, Tryz.ntmps80
  go_wp2_with fail
  refine (l01Below_any g n l _ hl hn hn' HC.out).mono ?_; rintro e w1 ⟨x, rfl, hx0, hx1, hc1, hg1⟩
  have H1 := hide hc1
  have G1 := hide hg1
  clear hc1 hg1
  go_wp2_with fail
  go_ret
  exact ⟨_, rfl, H1.out, G1.out⟩
set_option maxRecDepth 20000 in
set_option maxHeartbeats 400000 in
theorem l04Copy_any (N E : List P2) (A B : Option Addr) (c c' : Nat) (w : World) (hw : WR w N E A B c c') (hN : 0 < N.length) (hE1 : 0 < E.length) :
    Calls Tryz.prog 128 #[.agg #[.slice A N.length c, .slice B E.length c']] w fun e w' => ∃ A2 B2 d d', e = .returned (.agg #[.slice A2 N.length d, .slice B2 E.length d']) ∧ w'.ownsRow w.heap.size 84 2 (.slice A2 N.length d) N.length (enc2 N) ∧ w'.ownsRow w.heap.size 110 2 (.slice B2 E.length d') E.length (enc2 E) ∧ Ext w w' := by
  obtain ⟨i0, hi, hz0, hz1, hz2⟩ := info_parts nodeI_info
  obtain ⟨j0, hj, hy0, hy1, hy2⟩ := info_parts leadI_info
  have hNl := hw.hN
  have hEl := hw.hE
  have HW := hide hw
  clear hw
  
  go_enter Tryz.func128, Tryz.ntmps128
  go_wp2_with fail
  obtain ⟨w0, hw⟩ : ∃ w1, w1 = (w.alloc (Obj.cells #[Value.slice A N.length c, Value.slice B E.length c'] 27)).alloc (Obj.cells #[Value.slice none 0 0, Value.slice none 0 0] 27) := ⟨_, rfl⟩; rw [← hw]; have kT : Tr [(w.heap.size, [.slice A N.length c, .slice B E.length c']), (w.heap.size + 1, [.slice none 0 0, .slice none 0 0])] w w0 := (by rw [hw]; exact ⟨by (first | (simp [Bx, CellsAt, go_sem, *]; done) | (simp [Bx, CellsAt, go_sem, *]; omega)), by (repeat (first | exact kE | exact Ext.refl _ | apply Ext.alloc | apply Ext.drewN | apply Ext.drew | apply Ext.set0 | apply Ext.set1 | apply Ext.set2 | apply Ext.set3 | (refine Ext.setk ?_ (by omega) _) | (apply Ext.snoc; assumption)))⟩); have HT := hide kT; clear hw kT; have kT := HT.out; simp only [Tr, Bx, CellsAt, Nat.reduceAdd, Nat.zero_add, and_true] at kT; obtain ⟨⟨⟨kz0, kf0, kc0_0, kc0_1⟩, ⟨kz1, kf1, kc1_0, kc1_1⟩⟩, kE⟩ := kT
  have HZ := hide kz1
  have HT0 := HT
  have HE0 := hide kE
  refine wp_region_VL [fun v _ => ∃ g, v = .slice (some ⟨g, 0, none⟩) 0 0, fun v _ => v = .pointer (some ⟨w.heap.size, 0, none⟩), fun v _ => v = .slice A N.length c, fun v w' => w'.ownsRow w0.heap.size 84 2 v N.length (enc2 N), fun v _ => ∃ g, v = .slice (some ⟨g, 0, none⟩) 0 0, fun v _ => v = .pointer (some ⟨w.heap.size, 1, none⟩), fun v _ => v = .slice B E.length c', fun v w' => w'.ownsRow w0.heap.size 110 2 v E.length (enc2 E), fun v w' => ∃ x y, v = .agg #[x, y] ∧ w'.ownsRow w0.heap.size 84 2 x N.length (enc2 N) ∧ w'.ownsRow w0.heap.size 110 2 y E.length (enc2 E)]
    (by kernel_rfl) (by kernel_rfl) (by kernel_rfl) (by kernel_rfl) (by kernel_rfl) ⟨stab_any _, stab_eq _, stab_eq _, stab_own _ _ _ _ _, stab_any _, stab_eq _, stab_eq _, stab_own _ _ _ _ _, fun _ _ _ ⟨x, y, h1, h2, h3⟩ hE => ⟨x, y, h1, own_ext h2 hE, own_ext h3 hE⟩, trivial⟩ ?_ ?_
  · intro X w' hE
    have hc := hE.facts.1
    have hsz := hE.size
    refine ⟨⟨⟨⟨⟨⟨⟨⟨⟨trivial, ?_⟩, ?_⟩, ?_⟩, ?_⟩, ?_⟩, ?_⟩, ?_⟩, ?_⟩, ?_⟩
    · intro hp
      refine wpOp_of_list rfl rfl ?_
      go_wp2_with fail
      (try go_simp)
      exact regpost rfl ⟨w'.heap.size, rfl⟩ (by simp only [List.setIfInBounds_toArray, List.set_cons_zero, List.set_cons_succ]) ((Ext.refl _).alloc _)
    · intro hp
      refine wpOp_of_list rfl rfl ?_
      go_wp2_with fail
      (try go_simp)
      exact regpost rfl rfl (by simp only [List.setIfInBounds_toArray, List.set_cons_zero, List.set_cons_succ]) (Ext.refl _)
    · intro hp
      have h1 := hp 1 (by kernel_rfl)
      change X 1 = _ at h1
      refine wpOp_of_list rfl rfl ?_
      go_wp2_with fail
      (try go_simp)
      exact regpost rfl rfl (by simp only [List.setIfInBounds_toArray, List.set_cons_zero, List.set_cons_succ]) (Ext.refl _)
    · intro hp
      obtain ⟨g, h0⟩ : ∃ g, X 0 = .slice (some ⟨g, 0, none⟩) 0 0 := hp 0 (by kernel_rfl)
      have h2 := hp 2 (by kernel_rfl)
      change X 2 = _ at h2
      obtain ⟨b, off, rfl, hb, hcs⟩ := (HW.out.hr.ext (HE0.out.trans hE)).2 hN
      refine wpOp_of_list rfl rfl ?_
      go_simp
      refine wpList_append_grows _ rfl _ _ 24 rfl 84 i0 (.agg #[.int .i64 0, .int .i64 0]) 2 16 Tryz.underlying24 hi hz0 hz1 hz2 rfl (by decide) (some ⟨g, 0, none⟩) 0 0 [] (by first | with_reducible rfl | (simp [go_sem]; done)) (fun e => by cases e) rfl (fun _ _ j u hu => by simp at hu) ⟨b, off, none⟩ N.length c (enc2 N) (by first | with_reducible rfl | (simp [go_sem]; done)) (enc2_length _) (news_rds hcs) (enc2_one _) (by omega) (by unfold maxLen; omega) (by omega) ?_
      intro v' w4 hown4 hgrow4
      have hown5 : w4.ownsRow w0.heap.size 84 2 v' N.length (enc2 N) := own_mono (by simpa using hown4) hsz
      have hb1 : Ext w' w4 := grown_ext hgrow4
      go_wp2_with fail
      (try go_simp)
      refine regpost (v := v') rfl ?_ (by simp only [List.setIfInBounds_toArray, List.set_cons_zero, List.set_cons_succ]) hb1
      exact hown5
    · intro hp
      refine wpOp_of_list rfl rfl ?_
      go_wp2_with fail
      (try go_simp)
      exact regpost rfl ⟨w'.heap.size, rfl⟩ (by simp only [List.setIfInBounds_toArray, List.set_cons_zero, List.set_cons_succ]) ((Ext.refl _).alloc _)
    · intro hp
      refine wpOp_of_list rfl rfl ?_
      go_wp2_with fail
      (try go_simp)
      exact regpost rfl rfl (by simp only [List.setIfInBounds_toArray, List.set_cons_zero, List.set_cons_succ]) (Ext.refl _)
    · intro hp
      have h5 := hp 5 (by kernel_rfl)
      change X 5 = _ at h5
      refine wpOp_of_list rfl rfl ?_
      go_wp2_with fail
      (try go_simp)
      exact regpost rfl rfl (by simp only [List.setIfInBounds_toArray, List.set_cons_zero, List.set_cons_succ]) (Ext.refl _)
    · intro hp
      obtain ⟨g, h0⟩ : ∃ g, X 4 = .slice (some ⟨g, 0, none⟩) 0 0 := hp 4 (by kernel_rfl)
      have h2 := hp 6 (by kernel_rfl)
      change X 6 = _ at h2
      obtain ⟨b, off, rfl, hb, hcs⟩ := (HW.out.hs.ext (HE0.out.trans hE)).2 hE1
      refine wpOp_of_list rfl rfl ?_
      go_simp
      refine wpList_append_grows _ rfl _ _ 25 rfl 110 j0 (.agg #[.int .i64 0, .int .i64 0]) 2 16 Tryz.underlying25 hj hy0 hy1 hy2 rfl (by decide) (some ⟨g, 0, none⟩) 0 0 [] (by first | with_reducible rfl | (simp [go_sem]; done)) (fun e => by cases e) rfl (fun _ _ j u hu => by simp at hu) ⟨b, off, none⟩ E.length c' (enc2 E) (by first | with_reducible rfl | (simp [go_sem]; done)) (enc2_length _) (news_rds hcs) (enc2_one _) (by omega) (by unfold maxLen; omega) (by omega) ?_
      intro v' w4 hown4 hgrow4
      have hown5 : w4.ownsRow w0.heap.size 110 2 v' E.length (enc2 E) := own_mono (by simpa using hown4) hsz
      have hb1 : Ext w' w4 := grown_ext hgrow4
      go_wp2_with fail
      (try go_simp)
      refine regpost (v := v') rfl ?_ (by simp only [List.setIfInBounds_toArray, List.set_cons_zero, List.set_cons_succ]) hb1
      exact hown5
    · intro hp
      have h3 : w'.ownsRow w0.heap.size 84 2 (X 3) N.length (enc2 N) := hp 3 (by kernel_rfl)
      have h7 : w'.ownsRow w0.heap.size 110 2 (X 7) E.length (enc2 E) := hp 7 (by kernel_rfl)
      obtain ⟨A3, d3, e3, _⟩ := own_slice h3
      obtain ⟨A7, d7, e7, _⟩ := own_slice h7
      have hv : ∃ x y, (Value.agg #[.slice A3 N.length d3, .slice A7 E.length d7]) = .agg #[x, y] ∧ w'.ownsRow w0.heap.size 84 2 x N.length (enc2 N) ∧ w'.ownsRow w0.heap.size 110 2 y E.length (enc2 E) := ⟨_, _, rfl, e3 ▸ h3, e7 ▸ h7⟩
      have HV := hide hv
      clear hv h3 h7 hp
      refine wpOp_of_list rfl rfl ?_
      go_wp2_with fail
      (try go_simp)
      refine regpost (v := .agg #[.slice A3 N.length d3, .slice A7 E.length d7]) rfl ?_ (by simp only [List.setIfInBounds_toArray, List.set_cons_zero, List.set_cons_succ]) (Ext.refl _)
      exact HV.out
  · intro X w' hE hp
    have h8 : ∃ x y, X 8 = .agg #[x, y] ∧ w'.ownsRow w0.heap.size 84 2 x N.length (enc2 N) ∧ w'.ownsRow w0.heap.size 110 2 y E.length (enc2 E) := hp.2
    obtain ⟨x, y, h8, ho1, ho2⟩ := h8
    obtain ⟨A2, d, rfl, _⟩ := own_slice ho1
    obtain ⟨B2, d', rfl, _⟩ := own_slice ho2
    have HO1 := hide ho1
    have HO2 := hide ho2
    have HT := hide (HT0.out.ext hE)
    clear ho1 ho2 hp
    clear kz0 kf0 kc0_0 kc0_1 kz1 kf1 kc1_0 kc1_1 kE
    have kT := HT.out; simp only [Tr, Bx, CellsAt, Nat.reduceAdd, Nat.zero_add, and_true] at kT; obtain ⟨⟨⟨kz0, kf0, kc0_0, kc0_1⟩, ⟨kz1, kf1, kc1_0, kc1_1⟩⟩, kE⟩ := kT
    simp only [List.length_cons, List.length_nil, Nat.reduceAdd, List.drop_succ_cons, List.drop_zero]
    go_wp2_with fail
    refine bodyPost_ret (v := .agg #[.slice A2 N.length d, .slice B2 E.length d']) (by simp only [results, Tryz.results128]; go_simp) rfl ⟨A2, B2, d, d', rfl, ?_, ?_, ?_⟩
    · exact own_mono (own_setk (own_setk HO1.out HZ.out _) HZ.out _) (by have := HZ.out; omega)
    · exact own_mono (own_setk (own_setk HO2.out HZ.out _) HZ.out _) (by have := HZ.out; omega)
    · exact (kE.setk (by omega) _).setk (by omega) _
end Go.Proofs.YtabgcpoaepafjaaGreat
