/- Plain law on the shapes of panes: each is normal, has an area above 0 and as many nodes as the pane (no program in sight). No condition. -/
import Derived.Test.YtabgcpoaepafjaaShapP
import Derived.Test.YtabgcpoaepafjaaPlaneW
import Derived.Test.YtabgcpoaepafjaaShapeO
set_option linter.unusedSimpArgs false
set_option linter.unusedVariables false
namespace Go.Proofs.Ytabgcpoaepafjaa
open Shp

theorem faces_walk {f : Nat → Nat} {m : Nat} : ∀ n, ∀ l ∈ facesTo f m n, ∃ d, d < n ∧ l = walkL f m d
  | 0, l, h => by simp [facesTo] at h
  | n + 1, l, h => by
    simp only [facesTo] at h
    split at h
    · obtain ⟨d, h1, h2⟩ := faces_walk n l h
      exact ⟨d, by omega, h2⟩
    · rcases List.mem_append.1 h with h | h
      · obtain ⟨d, h1, h2⟩ := faces_walk n l h
        exact ⟨d, by omega, h2⟩
      · simp at h
        exact ⟨n, by omega, h⟩
theorem next_from {N E : List P2} {d : Nat} (hd : d < 2 * E.length) : fromN E (nextN N E d) = fromN E (twin d) := (around_mem.1 (beside_mem (N := N) (twin_lt hd) (-1))).2
theorem pane_shape {N E : List P2} {m : Nat} (h : wholeB N E = true) (hm : m < (fcs N E).length) (hp : isPaneB N E (m : Nat) = true) : NS (shapeV N E (m : Nat)) ∧ 0 < arS (shapeV N E (m : Nat)) ∧ (shapeV N E (m : Nat)).length = (paneV N E (m : Nat)).length := by
  obtain ⟨hW, hm0, hwh⟩ := wholeB_iff.1 h
  rw [shapeV_yes hp]
  have hpos := isPane_pos hp
  have hout : ((m : Nat) : Int) ≠ outerI N E ∧ (paneV N E (m : Nat)).Nodup := by
    unfold isPaneB at hp
    simp only [Bool.and_eq_true, Bool.not_eq_true', decide_eq_true_eq, decide_eq_false_iff_not] at hp
    exact hp.2
  obtain ⟨k0, q1, q2, q3, _⟩ := outer_whole h
  have har : 0 < areaL N E (fcs N E)[m] := by
    have := q3 m hm (fun e => hout.1 (by rw [q2, e]))
    rw [List.getD_eq_getElem?_getD, List.getElem?_eq_getElem hm] at this
    exact this
  have hmem : (fcs N E)[m] ∈ facesL N E := by
    have hx : ∀ l, l ∈ fcs N E → l ∈ facesL N E := fun l hl => fcs_faces h ▸ hl
    exact hx _ (List.getElem_mem hm)
  obtain ⟨d, hd, hF⟩ := faces_walk _ _ hmem
  obtain ⟨p, hp1, _, hp2, _, hp3⟩ := (next_inj N E).walk hd
  rw [hp3] at hF
  have hpv : paneV N E (m : Nat) = (List.range p).map fun k => fromN E (it (nextN N E) k d) := by
    rw [paneV_yes hm, hF]
    simp [nodesL]
  have hpts : ptsL N (paneV N E (m : Nat)) = (List.range p).map fun k => ptN N E (it (nextN N E) k d) := by
    rw [hpv]
    simp [ptsL, ptN]
  have hlen : (ptsL N (paneV N E (m : Nat))).length = p := by rw [hpts]; simp
  have hit := fun k => (next_inj N E).it_lt hd k
  have hgp : ∀ i, i < p → gp (ptsL N (paneV N E (m : Nat))) i = ptN N E (it (nextN N E) i d) := fun i hi => by
    rw [gp_at (by rw [hlen]; exact hi)]
    simp [hpts]
  have hgn : ∀ i, i < p → gp (ptsL N (paneV N E (m : Nat))) (i + 1) = ptN N E (it (nextN N E) (i + 1) d) := fun i hi => by
    rcases Nat.lt_or_ge (i + 1) p with q | q
    · exact hgp _ q
    · obtain rfl : p = i + 1 := by omega
      rw [hp2]
      have := hgp 0 (by omega)
      rw [show it (nextN N E) 0 d = d from rfl] at this
      rw [← this]
      exact gp_mod (by rw [hlen]; simp)
  have h0 : 0 < (ptsL N (paneV N E (m : Nat))).length := by rw [hlen]; omega
  have hnd : Nd (ptsL N (paneV N E (m : Nat))) := by
    refine Nd.of_nodup (List.pairwise_iff_getElem.2 fun i j hi hj hij e => ?_) h0
    rw [hlen] at hi hj
    have e1 := hgp i hi
    have e2 := hgp j hj
    rw [gp_at (by rw [hlen]; exact hi)] at e1
    rw [gp_at (by rw [hlen]; exact hj)] at e2
    rw [e1, e2] at e
    have e3 := hW.pt_inj (hit i) (hit j) e
    have h2 := List.pairwise_iff_getElem.1 hout.2 i j (by rw [hpv]; simpa using hi) (by rw [hpv]; simpa using hj) hij
    apply h2
    simp only [hpv]
    simpa using e3
  have he20 : E20 (ptsL N (paneV N E (m : Nat))) := fun i k => by
    have hs : ∀ i, nodeOk (gp (ptsL N (paneV N E (m : Nat))) i) = true := fun i => by
      have hi := Nat.mod_lt i h0
      rw [gp_mod (L := ptsL N (paneV N E (m : Nat))) (i := i) (j := i % (ptsL N (paneV N E (m : Nat))).length) (by rw [Nat.mod_mod]), hgp _ (by rw [hlen] at hi ⊢; exact hi)]
      exact hW.pt_ok (hit _)
    have a := nodeOk_iff.1 (hs i)
    have b := nodeOk_iff.1 (hs k)
    omega
  refine ⟨NS.of_fit h0 hnd he20, ?_, by rw [fit_length, ptsL_length]⟩
  rw [ar_eqv (Eqv.fit h0)]
  have e : arS (ptsL N (paneV N E (m : Nat))) = areaL N E (fcs N E)[m] := by
    unfold arS areaL
    rw [hlen, hF, List.map_map, sumI_range]
    apply sumI_congr
    intro k hk
    rw [hgp k hk, hgn k hk]
    unfold crossP cross2 ptN
    simp only [Function.comp]
    have hf : fromN E (it (nextN N E) (k + 1) d) = fromN E (twin (it (nextN N E) k d)) := next_from (hit k)
    rw [hf]
  rw [e]
  exact har
end Go.Proofs.Ytabgcpoaepafjaa
