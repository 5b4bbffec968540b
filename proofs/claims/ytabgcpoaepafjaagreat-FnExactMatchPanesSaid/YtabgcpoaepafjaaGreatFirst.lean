/- The walks of FirstAssembly (both forms). No condition but that a list has at most 1048576 elements. -/
import Derived.Test.YtabgcpoaepafjaaGreatGrow
import Derived.Test.YtabgcpoaepafjaaGreatOut
set_option linter.unusedSimpArgs false
set_option linter.unusedVariables false
namespace Go.Proofs.YtabgcpoaepafjaaGreat
open Go.RowKit

def castN (l : List Nat) : List Int := l.map fun x : Nat => (x : Int)
theorem castN_length (l : List Nat) : (castN l).length = l.length := by simp [castN]
theorem castN_snoc (l : List Nat) (f : Nat) : castN (l ++ [f]) = castN l ++ [(f : Int)] := by simp [castN]
theorem castN_get (l : List Nat) {k : Nat} (h : k < l.length) : (encI (castN l))[k]? = some (.int .i64 ((l[k] : Nat) : Int)) := by simp [castN, encI, h]
def lenV : Value → Nat
  | .slice _ m _ => m
  | _ => 0
def bitV : Value → Nat
  | .bool true => 1
  | _ => 0
theorem firstV_len {N E : List P2} {x : Int} : (firstV N E x).length ≤ 1048576 := by
  unfold firstV
  split
  · rename_i h
    unfold firstOk at h
    simp only [Bool.and_eq_true] at h
    obtain ⟨h1, h2, _⟩ := h
    have h3 := inR_true h2
    have hl := fcs_len (N := N) (E := E)
    have hs := OnWay.start (b := besTo (sd N E) E.length) (n := (fcs N E).length) (o := oN N E) (f := x.toNat) (by omega)
    unfold firstL
    rw [List.length_map]
    have : ∀ (k : Nat) (l : List Nat), (growL (besTo (sd N E) E.length) (fcs N E).length (oN N E) k l).length ≤ l.length + k := fun k => by
      induction k with
      | zero => intro l; exact Nat.le_refl _
      | succ k ih =>
        intro l
        simp only [growL]
        split
        · omega
        · rename_i f _
          have := ih (l ++ [f])
          simp at this
          omega
    have := this (fcs N E).length [x.toNat]
    simp at this
    omega
  · simp
theorem firstV_ok {N E : List P2} {x : Int} (h : firstOk N E x = true) : firstV N E x = firstL N E x.toNat := by unfold firstV; rw [if_pos h]
theorem firstV_no {N E : List P2} {x : Int} (h : firstOk N E x = false) : firstV N E x = [] := by unfold firstV; rw [if_neg (by simp [h])]
theorem in_face {f : Int} {n : Nat} (h : inR f 0 ((n : Int) - 1) = true) : ∃ k : Nat, f = (k : Nat) ∧ k < n := by
  have := inR_true h
  exact ⟨f.toNat, by omega, by omega⟩
theorem ret_first {A A' : Option Addr} {n m c : Nat} {x y : Bool} (h1 : n = m) (h2 : x = y) : Ending.returned (.tuple #[.slice A n c, .bool x]) = .returned (.tuple #[.slice A m c, .bool y]) := by rw [h1, h2]
end Go.Proofs.YtabgcpoaepafjaaGreat
