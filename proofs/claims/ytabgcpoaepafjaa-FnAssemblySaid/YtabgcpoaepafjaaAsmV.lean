/- Plain law on the assemblies of a window with at most ten faces: what the counts, the first assemblies and the loose panes come to (no program in sight). No condition. -/
import Derived.Test.YtabgcpoaepafjaaAsmP
import Derived.Test.YtabgcpoaepafjaaPlanI
set_option linter.unusedSimpArgs false
set_option linter.unusedVariables false
namespace Go.Proofs.Ytabgcpoaepafjaa
section
variable {N E : List P2}
theorem fcs_ten (h : wholeB N E = true) (hl : E.length ≤ N.length + 8) : (fcs N E).length ≤ 10 := by
  have := euler_of h
  have e : fcs N E = facesL N E := fcs_yes h
  rw [e]
  omega
theorem joined_set (h20 : (fcs N E).length ≤ 20) {s : Nat} (h0 : s ≠ 0) (hs : s < 2 ^ (fcs N E).length) (ho : s.testBit (oN N E) = false) : joinedI N E (s : Nat) = joinedB (besTo (sd N E) E.length) s (fcs N E).length := by
  have h1 : 1 ≤ (fcs N E).length := by
    rcases Nat.eq_zero_or_pos (fcs N E).length with q | q
    · rw [q] at hs; simp at hs; exact absurd hs h0
    · exact q
  unfold joinedI
  rw [decide_eq_true h1, decide_eq_true h20, Int.toNat_natCast, ho]
  have h7 : inR (s : Int) 1 ((2 ^ (fcs N E).length - 1 : Nat) : Int) = true := by
    obtain ⟨y, hy⟩ : ∃ y, 2 ^ (fcs N E).length = y := ⟨_, rfl⟩
    rw [hy] at hs ⊢
    simp only [inR, Bool.and_eq_true, decide_eq_true_eq]
    omega
  rw [h7]
  rfl
theorem joined_iff (h20 : (fcs N E).length ≤ 20) {s : Nat} (h0 : s ≠ 0) (hs : s < 2 ^ (fcs N E).length) (ho : s.testBit (oN N E) = false) : joinedI N E (s : Nat) = true ↔ Jd (besTo (sd N E) E.length) s := by
  rw [joined_set h20 h0 hs ho, joined_jd (bes_comm _ _) h0 hs]
/-- All panes, as a set. -/
noncomputable def allP (N E : List P2) : Nat := panesN (fcs N E).length (oN N E)
theorem allP_lt : allP N E < 2 ^ (fcs N E).length := panes_lt _ _
theorem allP_out : (allP N E).testBit (oN N E) = false := by unfold allP; rw [panes_bit]; simp
theorem allP_zero (h : wholeB N E = true) : allP N E = 0 ↔ (fcs N E).length = 1 := by
  have ho := (outer_nat h).2
  have hc := panes_count ho
  constructor
  · intro e
    have e2 : panesN (fcs N E).length (oN N E) = 0 := e
    rw [e2] at hc
    have : memN 0 (fcs N E).length = [] := by simp [memN]
    rw [this] at hc
    simp at hc
    omega
  · intro e
    have hp := panes_num ho
    unfold allP
    rw [e] at hp ho ⊢
    have o0 : oN N E = 0 := by omega
    rw [o0] at hp ⊢
    omega
theorem joined_all (h : wholeB N E = true) (h20 : (fcs N E).length ≤ 20) (h1 : (fcs N E).length ≠ 1) : joinedI N E (allP N E : Nat) = true ↔ Jd (besTo (sd N E) E.length) (allP N E) :=
  joined_iff h20 (fun e => h1 ((allP_zero h).1 e)) allP_lt allP_out
/-- The number of assemblies: above 0 just if the panes hang together. -/
theorem count_facts (h : wholeB N E = true) (h10 : (fcs N E).length ≤ 10) : ∃ W : Nat, countA N E = (W : Int) ∧ W ≤ 10 ^ 10 ∧ ((fcs N E).length = 1 → W = 1) ∧ ((fcs N E).length ≠ 1 → (0 < W ↔ joinedI N E (allP N E : Nat) = true)) := by
  have ho := (outer_nat h).2
  refine ⟨_, countA_yes ⟨by omega, h10⟩, ways_small h10 (panes_lt _ _), fun h1 => ?_, fun h1 => ?_⟩
  · have e : panesN (fcs N E).length (oN N E) = 0 := (allP_zero h).2 h1
    rw [e, ways_zero]
  · rw [joined_all h (by omega) h1, ways_pos (bes_comm _ _) _ (panes_lt _ _) (Sub.refl _)]
    have e : allP N E ≠ 0 := fun q => h1 ((allP_zero h).1 q)
    exact ⟨fun q => q.resolve_left e, .inr⟩
theorem firstL_cast (f : Nat) : firstL N E f = castN (growL (besTo (sd N E) E.length) (fcs N E).length (oN N E) (fcs N E).length [f]) := rfl
theorem first_is (h : wholeB N E = true) (h20 : (fcs N E).length ≤ 20) (h1 : (fcs N E).length ≠ 1) {f : Nat} (hf : f < (fcs N E).length) : firstOk N E (f : Nat) = (joinedI N E (allP N E : Nat) && decide (f ≠ oN N E)) := by
  have ho := (outer_nat h).2
  have hr : inR (f : Int) 0 (((fcs N E).length : Int) - 1) = true := by
    simp only [inR, Bool.and_eq_true, decide_eq_true_eq]
    omega
  rw [Bool.eq_iff_iff, Bool.and_eq_true, joined_all h h20 h1, decide_eq_true_eq]
  unfold firstOk
  rw [h, hr, Bool.true_and, Bool.true_and, Int.toNat_natCast, asmB_yes h, firstL_cast]
  rw [first_asm (bes_comm _ _) ho hf]
  exact And.comm
theorem first_facts {f : Nat} (h : firstOk N E (f : Nat) = true) (hf : f < (fcs N E).length) : ∃ R : List Nat, firstV N E (f : Nat) = castN R ∧ R.length + 1 = (fcs N E).length ∧ asmB N E (castN R) = true ∧ R[0]? = some f := by
  have hv := firstV_ok h
  unfold firstOk at h
  rw [Bool.and_eq_true, Bool.and_eq_true, Int.toNat_natCast] at h
  have ha := (asmB_yes h.1).1 h.2.2
  obtain ⟨g1, g2, _, _⟩ := grow_facts (b := besTo (sd N E) E.length) (n := (fcs N E).length) (o := oN N E) (f := f) (fcs N E).length [f] (.one f) rfl (fun x hx => by simp at hx; rw [hx]; exact ⟨hf, .inr rfl⟩) (by simp)
  rw [firstL_cast] at ha
  rw [Int.toNat_natCast, firstL_cast] at hv
  have h3 := h.2.2
  rw [firstL_cast] at h3
  refine ⟨_, hv, ?_, h3, ?_⟩
  · have := ha.1
    rw [castN_length] at this
    exact this
  · rw [← g2, List.head?_eq_getElem?]
/-- The set s behind k panes that were taken away. -/
structure Mid (N E : List P2) (s k : Nat) : Prop where
  lt : s < 2 ^ (fcs N E).length
  out : s.testBit (oN N E) = false
  num : (memN s (fcs N E).length).length + k + 1 = (fcs N E).length
  jd : s ≠ 0 → joinedI N E (s : Nat) = true
theorem Mid.start (h : wholeB N E = true) (hj : joinedI N E (allP N E : Nat) = true) : Mid N E (allP N E) 0 where
  lt := allP_lt
  out := allP_out
  num := by
    have ho := (outer_nat h).2
    have := panes_count ho
    unfold allP
    omega
  jd _ := hj
theorem Mid.stop {s k : Nat} (h : Mid N E s k) (hk : (fcs N E).length ≤ k + 1) : s = 0 := by
  have hn := h.num
  have : (memN s (fcs N E).length).length = 0 := by omega
  refine Classical.byContradiction fun h0 => ?_
  obtain ⟨i, hi⟩ := Nat.exists_testBit_of_ne_zero h0
  have := List.length_pos_of_mem (memN_mem.2 ⟨bit_lt h.lt hi, hi⟩)
  omega
theorem Mid.next {s k : Nat} (h : Mid N E s k) (h20 : (fcs N E).length ≤ 20) (h0 : s ≠ 0) : ∃ (f : Nat) (rest : List Nat), looseV N E (s : Nat) = castL (f :: rest) ∧ f < (fcs N E).length ∧ s.testBit f = true ∧ (s ≠ 2 ^ f → rest ≠ []) ∧ Mid N E (s - 2 ^ f) (k + 1) ∧ rest.length ≤ 40 := by
  have hj := h.jd h0
  have hJ := (joined_iff h20 h0 h.lt h.out).1 hj
  obtain ⟨f, rest, e, hf, hb, h3⟩ := loose_facts (bes_comm _ _) h.lt h0 hJ
  have hll := looseN_len (besTo (sd N E) E.length) s (fcs N E).length
  rw [e] at hll
  have hlt : s - 2 ^ f < 2 ^ (fcs N E).length := Nat.lt_of_le_of_lt (Nat.sub_le _ _) h.lt
  have hout : (s - 2 ^ f).testBit (oN N E) = false := by rw [lessBit hb, h.out]; rfl
  refine ⟨f, rest, by rw [looseV_yes hj, e]; rfl, hf, hb, fun q => (h3 q).2.2, ⟨hlt, hout, ?_, fun hz => ?_⟩, by simp at hll; omega⟩
  · have hs := Mid.next.bits_less (n := (fcs N E).length) hf hb
    have := h.num
    omega
  · have hne : s ≠ 2 ^ f := fun q => hz (by rw [q]; exact Nat.sub_self _)
    rw [joined_iff h20 hz hlt hout]
    exact (h3 hne).1
where
  bits_less {s f n : Nat} (hf : f < n) (hb : s.testBit f = true) : (memN (s - 2 ^ f) n).length + 1 = (memN s n).length := by
    have hp : (f :: memN (s - 2 ^ f) n).Perm (memN s n) := (List.perm_ext_iff_of_nodup (List.nodup_cons.2 ⟨fun q => by
      have := (memN_mem.1 q).2
      rw [lessBit hb] at this
      simp at this, memN_nodup _ _⟩) (memN_nodup _ _)).2 fun x => by
        rw [List.mem_cons, memN_mem, memN_mem, lessBit hb]
        constructor
        · rintro (rfl | ⟨q1, q2⟩)
          · exact ⟨hf, hb⟩
          · rw [Bool.and_eq_true] at q2
            exact ⟨q1, q2.1⟩
        · rintro ⟨q1, q2⟩
          by_cases e : x = f
          · exact .inl e
          · exact .inr ⟨q1, by simp [q2, e]⟩
    have := hp.length_eq
    simp at this
    omega
theorem joined_zero : joinedI N E ((0 : Nat) : Int) = false := by
  unfold joinedI
  have : inR ((0 : Nat) : Int) 1 ((2 ^ (fcs N E).length - 1 : Nat) : Int) = false := by simp [inR]
  rw [this]
  simp
theorem joined_wall (h : wholeB N E = true) (h1 : (fcs N E).length = 1) : joinedI N E ((1 : Nat) : Int) = false := by
  have ho := (outer_nat h).2
  have o0 : oN N E = 0 := by omega
  unfold joinedI
  have : (((1 : Nat) : Int).toNat).testBit (oN N E) = true := by rw [o0]; rfl
  rw [this]
  simp
theorem asm_none (h : wholeB N E = true) (h1 : (fcs N E).length = 1) : asmB N E [] = true := by
  rw [asmB_yes h, h1]
  exact ⟨rfl, fun j hj => absurd hj (by simp), fun j hj => absurd hj (by simp)⟩
end
end Go.Proofs.Ytabgcpoaepafjaa
