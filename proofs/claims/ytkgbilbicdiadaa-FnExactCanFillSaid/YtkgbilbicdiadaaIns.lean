/- Plain law: the darts around a node by single steps of insertion, and lists of numbers in memory. No condition. -/
import Derived.Test.YtkgbilbicdiadaaGeo
import Derived.Test.YtkgbilbicdiadaaMat
import Derived.Test.YtkgbilbicdiadaaOwn
set_option linter.unusedSimpArgs false
set_option linter.unusedVariables false
namespace Go.Proofs.Ytkgbilbicdiadaa
open Go.RowKit

def insAll (lt : Nat → Nat → Bool) (l : List Nat) : List Nat := l.foldl (fun r v => insR lt v r) []
theorem insAll_snoc (lt : Nat → Nat → Bool) (l : List Nat) (v : Nat) : insAll lt (l ++ [v]) = insR lt v (insAll lt l) := by simp [insAll]
theorem arR_ins (N E : List P2) (k : Int) : ∀ n, arR N E k n = insAll (ltD N E k) (dartsAt E k n)
  | 0 => rfl
  | n + 1 => by
    rw [dartsAt_succ]
    simp only [arR]
    split
    · rw [insAll_snoc, arR_ins N E k n]
    · exact arR_ins N E k n
theorem insR_length (lt : Nat → Nat → Bool) (v : Nat) (r : List Nat) : (insR lt v r).length = r.length + 1 := by
  rw [(insR_perm lt v r).length_eq]
  simp
theorem insAll_take_succ (lt : Nat → Nat → Bool) (l : List Nat) {i : Nat} (h : i < l.length) : insAll lt (l.take (i + 1)) = insR lt l[i] (insAll lt (l.take i)) := by
  rw [List.take_succ_eq_append_getElem h, insAll_snoc]
theorem insAll_length (lt : Nat → Nat → Bool) (l : List Nat) : ∀ i, i ≤ l.length → (insAll lt (l.take i)).length = i
  | 0, _ => rfl
  | i + 1, h => by rw [insAll_take_succ lt l (show i < l.length by omega), insR_length, insAll_length lt l i (by omega)]
/-- In the middle of a step: v has passed the part a of a ++ b. -/
structure InsMid (lt : Nat → Nat → Bool) (v : Nat) (r a b : List Nat) : Prop where
  eq : r = a ++ b
  out : insR lt v r = a ++ insR lt v b
theorem InsMid.start (lt : Nat → Nat → Bool) (v : Nat) (r : List Nat) : InsMid lt v r [] r := ⟨rfl, rfl⟩
theorem InsMid.go {lt : Nat → Nat → Bool} {v x : Nat} {r a b : List Nat} (h : InsMid lt v r a (x :: b)) (hx : lt v x = true) : InsMid lt v r (a ++ [x]) b where
  eq := by rw [h.eq]; simp
  out := by rw [h.out]; simp [insR, hx]
theorem InsMid.stop_nil {lt : Nat → Nat → Bool} {v : Nat} {r a : List Nat} (h : InsMid lt v r a []) : insR lt v r = a ++ [v] := h.out
theorem InsMid.stop {lt : Nat → Nat → Bool} {v x : Nat} {r a b : List Nat} (h : InsMid lt v r a (x :: b)) (hx : lt v x = false) : insR lt v r = a ++ v :: x :: b := by rw [h.out]; simp [insR, hx]
/-- What lies in the row in the middle of a step. -/
def midL (v : Nat) (a b rest : List Nat) : List Nat := b.reverse ++ v :: (a.reverse ++ rest)
theorem midL_length (v : Nat) (a b rest : List Nat) : (midL v a b rest).length = b.length + 1 + (a.length + rest.length) := by simp [midL]; omega
theorem midL_v (v : Nat) (a b rest : List Nat) : (midL v a b rest)[b.length]? = some v := by simp [midL]
theorem midL_x (v x : Nat) (a b rest : List Nat) : (midL v a (x :: b) rest)[b.length]? = some x := by simp [midL]
theorem midL_shift (v x : Nat) (a b rest : List Nat) (y : Nat) : (midL y a (x :: b) rest).set (b.length + 1) x = b.reverse ++ x :: x :: (a.reverse ++ rest) := by
  have e : midL y a (x :: b) rest = b.reverse ++ x :: y :: (a.reverse ++ rest) := by simp [midL]
  rw [e, List.set_append]
  simp [show ¬ b.length + 1 < b.length from by omega]
theorem midL_swap (v x : Nat) (a b rest : List Nat) : ((midL v a (x :: b) rest).set (b.length + 1) x).set b.length v = midL v (a ++ [x]) b rest := by
  rw [midL_shift v, List.set_append]
  simp [midL]
theorem midL_end (v : Nat) (a b rest : List Nat) : midL v a b rest = (a ++ v :: b).reverse ++ rest := by simp [midL]

/-- Numbers in memory. -/
def encN (l : List Nat) : List Value := l.map fun d => Value.int .i64 (d : Nat)
theorem encN_length (l : List Nat) : (encN l).length = l.length := by simp [encN]
theorem encN_append (a b : List Nat) : encN (a ++ b) = encN a ++ encN b := by simp [encN]
theorem encN_one (l : List Nat) : ∀ u ∈ encN l, u.oneCell' = true := by
  intro u hu
  simp only [encN, List.mem_map] at hu
  obtain ⟨d, _, rfl⟩ := hu
  rfl
theorem encN_I (l : List Nat) : encN l = encI (l.map fun d : Nat => (d : Int)) := by simp [encN, encI]
theorem encN_set (l : List Nat) (i v : Nat) : encN (l.set i v) = (encN l).set i (.int .i64 (v : Nat)) := by simp [encN, List.map_set]
theorem RN.at_ {w : World} {A : Option Addr} {n : Nat} {l : List Nat} (h : Rds w 1 A n (encN l)) (hn : l.length = n) {k : Nat} (hk : k < l.length) : ∃ b off, A = some ⟨b, off, none⟩ ∧ b < w.heap.size ∧ w.cell? ⟨b, off + k, none⟩ = some (.int .i64 (l[k] : Nat)) := by
  subst hn
  rw [encN_I] at h
  have hl : l.length = (l.map fun d : Nat => (d : Int)).length := by simp
  rw [hl] at h
  obtain ⟨b, off, h1, h2, h3⟩ := RI.at_ h (k := k) (by simpa using hk)
  exact ⟨b, off, h1, h2, by rw [h3]; simp⟩
/-- A window in memory. -/
structure WR (w : World) (N E : List P2) (A B : Option Addr) (c d : Nat) : Prop where
  hN : N.length ≤ 1048576
  hE : E.length ≤ 1048576
  hc : N.length ≤ c
  hd : E.length ≤ d
  hr : R2 w A N
  hs : R2 w B E
theorem WR.ext {w w' : World} {N E : List P2} {A B : Option Addr} {c d : Nat} (h : WR w N E A B c d) (hE : Ext w w') : WR w' N E A B c d := ⟨h.hN, h.hE, h.hc, h.hd, h.hr.ext hE, h.hs.ext hE⟩
theorem WinOk.lead_at {N E : List P2} (h : WinOk N E) {k : Nat} (hk : k < E.length) : 0 ≤ (at2 E k).1 ∧ (at2 E k).1 < N.length ∧ 0 ≤ (at2 E k).2 ∧ (at2 E k).2 < N.length := by
  have h1 := (leadOk_iff.1 (h.leads k hk).1).1
  omega
theorem fromN_even (E : List P2) (k : Nat) : fromN E (2 * k) = (at2 E k).1 := by
  unfold fromN
  rw [if_pos (by omega)]
  congr 2
  omega
theorem fromN_odd (E : List P2) (k : Nat) : fromN E (2 * k + 1) = (at2 E k).2 := by
  unfold fromN
  rw [if_neg (by omega)]
  congr 2
  omega
theorem WinOk.cross_in {N E : List P2} (h : WinOk N E) {d : Nat} (hd : d < 2 * E.length) : -400 ≤ cross2 N E d ∧ cross2 N E d ≤ 400 := by
  have h1 := nodeOk_iff.1 (h.ends hd).2.2
  have h2 := nodeOk_iff.1 (h.ends (twin_lt hd)).2.2
  obtain ⟨x, hx⟩ : ∃ x, (at2 N (fromN E d)) = x := ⟨_, rfl⟩
  obtain ⟨y, hy⟩ : ∃ y, (at2 N (fromN E (twin d))) = y := ⟨_, rfl⟩
  rw [hx] at h1
  rw [hy] at h2
  unfold cross2
  rw [hx, hy]
  have a1 : x.1 * y.2 ≤ 20 * 20 := Int.mul_le_mul h1.1.2 h2.2.2 h2.2.1 (by omega)
  have a2 : 0 ≤ x.1 * y.2 := Int.mul_nonneg h1.1.1 h2.2.1
  have b1 : x.2 * y.1 ≤ 20 * 20 := Int.mul_le_mul h1.2.2 h2.1.2 h2.1.1 (by omega)
  have b2 : 0 ≤ x.2 * y.1 := Int.mul_nonneg h1.2.1 h2.1.1
  omega
end Go.Proofs.Ytkgbilbicdiadaa
namespace Go.Proofs.Ytkgbilbicdiadaa
open Go.RowKit

theorem NodesTo.zero (N : List P2) : NodesTo N 0 := fun j hj => absurd hj (by omega)
theorem NodesTo.next {N : List P2} {k : Nat} (h : NodesTo N k) (hk : k < N.length) (ha : N.all nodeOk = true) (hc : N[k] ∉ N.take k) : NodesTo N (k + 1) := by
  intro j hj
  rcases Nat.lt_or_ge j k with h1 | h1
  · exact h j h1
  · have e : j = k := by omega
    subst e
    refine ⟨by rw [at2_eq hk]; exact List.all_eq_true.1 ha _ (List.getElem_mem hk), fun i hi q => hc ?_⟩
    rw [at2_eq hk, at2_eq (show i < N.length by omega)] at q
    rw [← q, List.mem_take_iff_getElem]
    exact ⟨i, by omega, rfl⟩
theorem NodesTo.dup {N : List P2} {k : Nat} (hk : k < N.length) (hc : N[k] ∈ N.take k) : ¬ NodesTo N N.length := by
  intro h
  obtain ⟨i, hi, q⟩ := List.mem_take_iff_getElem.1 hc
  have := (h k hk).2 i (by omega)
  rw [at2_eq hk, at2_eq (show i < N.length by omega)] at this
  exact this q
theorem LeadsTo.zero (N E : List P2) : LeadsTo N E 0 := fun j hj => absurd hj (by omega)
theorem LeadsTo.next {N E : List P2} {k : Nat} (h : LeadsTo N E k) (h1 : leadOk N (at2 E k) = true) (h2 : ∀ i, i < k → crossB N (at2 E i) (at2 E k) = false) (h3 : ∀ i : Nat, i < N.length → (i : Int) ≠ (at2 E k).1 → (i : Int) ≠ (at2 E k).2 → onLead N (at2 E k) (at2 N i) = false) : LeadsTo N E (k + 1) := by
  intro j hj
  rcases Nat.lt_or_ge j k with a | a
  · exact h j a
  · have e : j = k := by omega
    subst e
    exact ⟨h1, h2, h3⟩
theorem NodesTo.next2 {N : List P2} {k : Nat} (h : NodesTo N k) (h1 : nodeOk (at2 N k) = true) (h2 : ∀ i : Nat, i < k → at2 N i ≠ at2 N k) : NodesTo N (k + 1) := by
  intro j hj
  rcases Nat.lt_or_ge j k with a | a
  · exact h j a
  · have e : j = k := by omega
    subst e
    exact ⟨h1, h2⟩
end Go.Proofs.Ytkgbilbicdiadaa
namespace Go.Proofs.Ytkgbilbicdiadaa
open Go.RowKit

/-- The slice of address A reads as headers whose rows read as the lists of F. -/
def RT (w : World) (A : Option Addr) (F : List (List Nat)) : Prop :=
  ∃ hs : List Value, Rds w 1 A F.length hs ∧ ∀ (i : Nat) (l : List Nat), F[i]? = some l → ∃ Ai ci, hs[i]? = some (Value.slice Ai l.length ci) ∧ l.length ≤ ci ∧ Rds w 1 Ai l.length (encN l)
theorem RT.nil (w : World) : RT w none [] := ⟨[], Rds.nil_, fun i l h => by simp at h⟩
theorem RT.ext {w w' : World} {A : Option Addr} {F : List (List Nat)} (h : RT w A F) (hE : Ext w w') : RT w' A F := by
  obtain ⟨hs, h1, h2⟩ := h
  refine ⟨hs, h1.ext hE, fun i l hi => ?_⟩
  obtain ⟨Ai, ci, a, b, c⟩ := h2 i l hi
  exact ⟨Ai, ci, a, b, c.ext hE⟩
theorem RT.at_ {w : World} {A : Option Addr} {F : List (List Nat)} (h : RT w A F) {k : Nat} (hk : k < F.length) :
    ∃ b off Ai ci, A = some ⟨b, off, none⟩ ∧ b < w.heap.size ∧ w.cell? ⟨b, off + k, none⟩ = some (Value.slice Ai F[k].length ci) ∧ F[k].length ≤ ci ∧ Rds w 1 Ai F[k].length (encN F[k]) := by
  obtain ⟨hs, h1, h2⟩ := h
  obtain ⟨b, off, e, hb, hc⟩ := h1.2 (by omega)
  obtain ⟨Ai, ci, a, b', c⟩ := h2 k F[k] (by simp)
  exact ⟨b, off, Ai, ci, e, hb, hc _ _ a, b', c⟩
/-- A table that grows: headers in a row of the call's own, rows in blocks from B on, none of them that of the headers. -/
structure GT (w : World) (B : Nat) (T : TypeId) (v : Value) (F : List (List Nat)) (hs : List Value) : Prop where
  own : w.ownsRow B T 1 v F.length hs
  row : ∀ (i : Nat) (l : List Nat), F[i]? = some l → ∃ g ci, hs[i]? = some (Value.slice (some ⟨g, 0, none⟩) l.length ci) ∧ l.length ≤ ci ∧ B ≤ g ∧ g < w.heap.size ∧ v.ownBlock ≠ some g ∧ Rds w 1 (some ⟨g, 0, none⟩) l.length (encN l)
theorem GT.start (w : World) (B : Nat) (T : TypeId) : GT w B T (.slice none 0 0) [] [] := ⟨World.ownsRow_nil w B T 1, fun i l h => by simp at h⟩
/-- What leaves the blocks from B on as they were leaves the table. -/
theorem GT.keep {w w' : World} {B : Nat} {T : TypeId} {v : Value} {F : List (List Nat)} {hs : List Value} (h : GT w B T v F hs) (hz : w.heap.size ≤ w'.heap.size) (hk : ∀ b, B ≤ b → b < w.heap.size → w'.heap[b]? = w.heap[b]?) : GT w' B T v F hs := by
  refine ⟨⟨h.own.1, ?_⟩, fun i l hi => ?_⟩
  · rcases h.own.2 with h1 | ⟨g, cap, cur, h1, h2, h3, h4⟩
    · exact .inl h1
    · refine .inr ⟨g, cap, cur, h1, h2, ?_, h4⟩
      rw [hk g h2 (h.own.lt g (by rw [h1]; rfl)).2]
      exact h3
  · obtain ⟨g, ci, a1, a2, a3, a4, a5, a6⟩ := h.row i l hi
    exact ⟨g, ci, a1, a2, a3, by omega, a5, a6.keep hz (fun b off e _ hb => by
      injection e with e
      injection e with e1 _ _
      subst e1
      exact hk _ a3 hb)⟩
theorem GT.ext {w w' : World} {B : Nat} {T : TypeId} {v : Value} {F : List (List Nat)} {hs : List Value} (h : GT w B T v F hs) (hE : Ext w w') : GT w' B T v F hs := h.keep hE.size fun b _ hb => hE.block b hb
theorem GT.setk {w : World} {B k i : Nat} {T : TypeId} {v u : Value} {F : List (List Nat)} {hs : List Value} (h : GT w B T v F hs) (hk : k < B) : GT (w.setCell ⟨k, i, none⟩ u) B T v F hs :=
  h.keep (by simp) fun b hb _ => Below.heap_setCell _ _ _ _ (show b ≠ k by omega)
/-- One row more. -/
theorem GT.more {w w4 : World} {B g ci : Nat} {T : TypeId} {v v' : Value} {F : List (List Nat)} {hs : List Value} {l : List Nat} (h : GT w B T v F hs) (hB : B ≤ g) (hg : g < w.heap.size) (hgv : v.ownBlock ≠ some g) (hl : l.length ≤ ci) (hr : Rds w 1 (some ⟨g, 0, none⟩) l.length (encN l))
    (hgr : (w.alloc (.cells #[Value.slice (some ⟨g, 0, none⟩) l.length ci] T)).grownBy w4 v.ownBlock) (hv : v'.ownBlock = v.ownBlock ∨ v'.ownBlock = some (w.alloc (.cells #[Value.slice (some ⟨g, 0, none⟩) l.length ci] T)).heap.size)
    (how : w4.ownsRow B T 1 v' (F.length + 1) (hs ++ [Value.slice (some ⟨g, 0, none⟩) l.length ci])) : GT w4 B T v' (F ++ [l]) (hs ++ [Value.slice (some ⟨g, 0, none⟩) l.length ci]) := by
  have hz := hgr.size
  simp only [World.size_alloc] at hz
  have hne : ∀ x, x < w.heap.size → v.ownBlock ≠ some x → v'.ownBlock ≠ some x := by
    intro x hx hn e
    rcases hv with e' | e'
    · rw [e'] at e
      exact hn e
    · rw [e'] at e
      injection e with e
      simp at e
      omega
  have hkeep : ∀ (A : Nat) (m : Nat) (xs : List Value), A < w.heap.size → v.ownBlock ≠ some A → Rds w 1 (some ⟨A, 0, none⟩) m xs → Rds w4 1 (some ⟨A, 0, none⟩) m xs := by
    intro A m xs hA hn hr
    refine (hr.alloc _).grown hgr fun b off e e' => ?_
    injection e with e
    injection e with e1 _ _
    subst e1
    exact hn e'
  have hlen : hs.length = F.length := by have := h.own.1; omega
  refine ⟨by simpa using how, fun i m hi => ?_⟩
  rcases Nat.lt_trichotomy i F.length with hlt | he | hgt
  · rw [List.getElem?_append_left hlt] at hi
    obtain ⟨g', ci', a1, a2, a3, a4, a5, a6⟩ := h.row i m hi
    exact ⟨g', ci', by rw [List.getElem?_append_left (by omega)]; exact a1, a2, a3, by omega, hne g' a4 a5, hkeep g' _ _ a4 a5 a6⟩
  · subst he
    have e : m = l := by simpa using hi.symm
    subst e
    refine ⟨g, ci, ?_, hl, hB, by omega, hne g hg hgv, hkeep g _ _ hg hgv hr⟩
    rw [List.getElem?_append_right (by omega), hlen]
    simp
  · rw [List.getElem?_eq_none (by simp; omega)] at hi
    cases hi
theorem GT.done {w : World} {B : Nat} {T : TypeId} {v : Value} {F : List (List Nat)} {hs : List Value} (h : GT w B T v F hs) : ∃ A c, v = .slice A F.length c ∧ F.length ≤ c ∧ (A = none → F = []) ∧ RT w A F := by
  obtain ⟨A, c, rfl, h1, h2, _⟩ := own_slice h.own
  refine ⟨A, c, rfl, h1, fun e => List.length_eq_zero_iff.1 (h2 e), hs, Rds.of_own h.own, fun i l hi => ?_⟩
  obtain ⟨g, ci, a1, a2, _, _, _, a6⟩ := h.row i l hi
  exact ⟨_, ci, a1, a2, a6⟩
end Go.Proofs.Ytkgbilbicdiadaa
