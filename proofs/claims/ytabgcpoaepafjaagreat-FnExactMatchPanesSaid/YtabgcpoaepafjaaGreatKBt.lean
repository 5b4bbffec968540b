/- Words for a list that is copied and appended to once within a region; the greatest number is no more than the rows. No condition. -/
import Derived.Test.YtabgcpoaepafjaaGreatPlOf
import Derived.Test.YtabgcpoaepafjaaGreatMatchP
import Derived.Test.YtabgcpoaepafjaaGreatRegK
import Derived.Test.YtabgcpoaepafjaaGreatHas
import Derived.Deep.AppendLies
import Derived.Deep.Upon
set_option linter.unusedSimpArgs false
set_option linter.unusedVariables false
namespace Go.Proofs.YtabgcpoaepafjaaGreat
open Go.RowKit

theorem own_pre {w : World} {base n m cap sz g : Nat} {T : TypeId} {xs ys : List Value} (h : w.ownsRow base T sz (.slice (some ⟨g, 0, none⟩) (n + m) cap) (n + m) (xs ++ ys)) (hx : xs.length = n * sz) : w.ownsRow base T sz (.slice (some ⟨g, 0, none⟩) n cap) n xs := by
  rcases h.2 with ⟨q, _⟩ | ⟨g', c, cur, q, h1, h2, h3, h4, h5, h6⟩
  · cases q
  · injection q with q1 _ q3
    injection q1 with q1
    injection q1 with q1
    subst q1 q3
    refine ⟨hx, .inr ⟨g, cap, cur, rfl, h1, h2, by omega, h4, h5, ?_⟩⟩
    have e := congrArg (List.take (n * sz)) h6
    rw [List.take_take, List.take_left' hx, Nat.min_eq_left (Nat.mul_le_mul_right _ (by omega))] at e
    exact e
theorem bestM_le : ∀ (P : List (List Nat)) (used : List Nat), bestM P used ≤ P.length
  | [], _ => Nat.zero_le _
  | r :: P, used => by
    have h := fold_had (g := fun p => 1 + bestM P (used ++ [p])) (q := fun p => used.contains p) r (bestM P used)
    have e : bestM (r :: P) used = r.foldl (fun b p => if used.contains p then b else max b (1 + bestM P (used ++ [p]))) (bestM P used) := rfl
    rw [e]
    simp only [List.length_cons]
    rcases h with h | ⟨p, _, _, h⟩
    · have := bestM_le P used
      rw [h]
      omega
    · have := bestM_le P (used ++ [p])
      rw [h]
      omega
theorem src_nil {P : Program} {size : Nat} {tx e' : TypeId} (hk : P.underlying tx = some (.slice e')) (xa : Option Addr) (c : Nat) (w : World) : Src P size tx (.slice xa 0 c) 0 [] w := by
  cases xa with
  | none => exact Src.ofNil w hk c
  | some ad => exact Src.ofSlice w hk ad 0 c [] (by simp) (fun j u h => by simp at h) (fun u hu => by simp at hu)
theorem wpList_append_nothing {P : Program} {w : World} {ops : Array Oper} {rest : List Oper} {o : Oper} {a : Act} {Q : Exit → Act → World → Prop} (hg : o.guard = none) (s x : Operand) (t : TypeId)
    (hop : o.op = Op.call { callee := Callee.builtin Builtin.append, args := #[s, x], argTypes := #[t, t] }) (e : TypeId) (i : TypeInfo) (h1 : P.underlying t = some (.slice e)) (h2 : P.info? e = some i)
    (base : Option Addr) (n cap : Nat) (hs : a.eval s = .slice base n cap) (hle : n ≤ cap) (xa : Option Addr) (m c : Nat) (hm : m = 0) (hx : a.eval x = .slice xa m c)
    (hK : wpList P ops Q rest (a.put o.dst (.slice base n cap)) w) : wpList P ops Q (o :: rest) a w := by
  subst hm
  refine wpList_plain hg fun K hK' => ?_
  have hrun := run_append_nothing (P := P) w t t o.type e i h1 h2 base n cap hle (.slice xa 0 c) (src_nil h1 xa c w)
  unfold Oper.wp
  simp [execOp, hop, resolve, invoke, builtin, hs, hx, hrun, Result.andThen]
  exact hK' _ _ hK
/-- Worlds of a region that copies the list u and appends p to the copy: old memory (below B) stays, short rows stay, and rows that hold u and p stay. -/
structure KB (B : Nat) (u : List Nat) (p : Nat) (w w' : World) : Prop where
  os : w'.os = w.os
  tape : w'.tape = w.tape
  output : w'.output = w.output
  size : w.heap.size ≤ w'.heap.size
  block : ∀ k, k < B → k < w.heap.size → w'.heap[k]? = w.heap[k]?
  pre : ∀ (m : Nat) (xs : List Value) (A : Option Addr) (c : Nat), m ≤ u.length → w.ownsRow B 3 1 (.slice A m c) m xs → w'.ownsRow B 3 1 (.slice A m c) m xs
  ext : ∀ (A : Option Addr) (c : Nat), w.ownsRow B 3 1 (.slice A (u.length + 1) c) (u.length + 1) (encI (castZ (u ++ [p]))) → w'.ownsRow B 3 1 (.slice A (u.length + 1) c) (u.length + 1) (encI (castZ (u ++ [p])))
section
variable {B p : Nat} {u : List Nat} {a b c w w' : World}
theorem KB.trans (h : KB B u p a b) (k : KB B u p b c) : KB B u p a c :=
  ⟨k.os.trans h.os, k.tape.trans h.tape, k.output.trans h.output, Nat.le_trans h.size k.size, fun i hi hi2 => (k.block i hi (Nat.lt_of_lt_of_le hi2 h.size)).trans (h.block i hi hi2), fun m xs A c hm q => k.pre m xs A c hm (h.pre m xs A c hm q), fun A c q => k.ext A c (h.ext A c q)⟩
theorem KB.of_ext (h : Ext w w') : KB B u p w w' := ⟨h.os, h.tape, h.output, h.size, fun k _ hk => h.block k hk, fun _ _ _ _ _ q => own_ext q h, fun _ _ q => own_ext q h⟩
theorem KB.toExt (h : KB w.heap.size u p w w') : Ext w w' := ⟨h.os, h.tape, h.output, h.size, fun k hk => h.block k hk hk⟩
theorem castZ_snoc (u : List Nat) (p : Nat) : encI (castZ (u ++ [p])) = encI (castZ u) ++ [.int .i64 (p : Int)] := by simp [castZ, encI]
theorem KB.fits {r cp : Nat} (hg : w.grownBy w' (some r)) (hr : B ≤ r) (h0 : w.ownsRow B 3 1 (.slice (some ⟨r, 0, none⟩) u.length cp) u.length (encI (castZ u)))
    (h1 : w'.ownsRow B 3 1 (.slice (some ⟨r, 0, none⟩) (u.length + 1) cp) (u.length + 1) (encI (castZ (u ++ [p])))) : KB B u p w w' := by
  obtain ⟨cs, k1, k2, k3, _⟩ := Blk.of_own h0
  have same : ∀ {m : Nat} {xs : List Value} {A : Option Addr} {c : Nat}, w.ownsRow B 3 1 (.slice A m c) m xs → (Value.slice A m c).ownBlock = some r → A = some ⟨r, 0, none⟩ ∧ c = cp := by
    intro m xs A c q e
    obtain ⟨A2, c2, e1, _, e3, e4⟩ := own_slice q
    injection e1 with e1 _ e2
    subst e1 e2
    cases A with
    | none => cases e
    | some ad =>
      obtain ⟨g, rfl, _, _, _⟩ := e4 ad rfl
      have e : some g = some r := e
      injection e with e
      subst e
      obtain ⟨cs', q1, _, q3, _⟩ := Blk.of_own q
      unfold Blk at k1 q1
      rw [k1] at q1
      injection q1 with q1
      injection q1 with q1
      have : cs = cs' := by simpa using q1
      subst this
      exact ⟨rfl, by omega⟩
  refine ⟨hg.os, hg.tape, hg.output, hg.size, fun k hk hk2 => hg.block k hk2 (fun e => by injection e; omega), fun m xs A c hm q => ?_, fun A c q => ?_⟩
  · by_cases e : (Value.slice A m c).ownBlock = some r
    · obtain ⟨rfl, rfl⟩ := same q e
      have hx : xs = (encI (castZ u)).take m := by
        obtain ⟨cs', q1, q2, _, _⟩ := Blk.of_own q
        unfold Blk at k1 q1
        rw [k1] at q1
        injection q1 with q1
        injection q1 with q1
        have : cs = cs' := by simpa using q1
        subst this
        rw [← q2, ← k2, List.take_take]
        congr 1
        omega
      have hlen : xs.length = m * 1 := q.1
      rw [castZ_snoc] at h1
      have hsplit : encI (castZ u) ++ [Value.int .i64 (p : Int)] = xs ++ ((encI (castZ u)).drop m ++ [Value.int .i64 (p : Int)]) := by rw [hx, ← List.append_assoc, List.take_append_drop]
      rw [hsplit, show u.length + 1 = m + (u.length + 1 - m) by omega] at h1
      exact own_pre h1 hlen
    · exact q.kept hg (.inr e)
  · by_cases e : (Value.slice A (u.length + 1) c).ownBlock = some r
    · obtain ⟨rfl, rfl⟩ := same q e
      exact h1
    · exact q.kept hg (.inr e)
end
end Go.Proofs.YtabgcpoaepafjaaGreat
