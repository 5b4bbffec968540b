/- The walks of IsAssembly (both forms). No condition but that a list has at most 1048576 elements. -/
import Derived.Test.YtabgcpoaepafjaaJoined
set_option linter.unusedSimpArgs false
set_option linter.unusedVariables false
namespace Go.Proofs.Ytabgcpoaepafjaa
open Go.RowKit

/-- The k-th number of a list, as a face. -/
def faceOf (l : List Int) (k : Nat) : Nat := (l.getD k 0).toNat
/-- It is one of n faces. -/
def isFace (l : List Int) (n k : Nat) : Bool := inR (l.getD k 0) 0 ((n : Int) - 1)
theorem isFace_lt {l : List Int} {n k : Nat} (h : isFace l n k = true) : faceOf l k < n := by
  have h' : 0 ≤ l.getD k 0 ∧ l.getD k 0 ≤ (n : Int) - 1 := by simpa [isFace, inR] using h
  unfold faceOf
  omega
theorem isFace_nat {l : List Int} {n k : Nat} (hk : k < l.length) (h : isFace l n k = true) : l[k] = (faceOf l k : Nat) := by
  have h' : 0 ≤ l.getD k 0 ∧ l.getD k 0 ≤ (n : Int) - 1 := by simpa [isFace, inR] using h
  have e : l.getD k 0 = l[k] := by simp [List.getD, hk]
  unfold faceOf
  rw [e] at h' ⊢
  omega
open Classical in
noncomputable def asmB (N E : List P2) (l : List Int) : Bool := wholeB N E && decide (AsmOk (besTo (sd N E) E.length) (isFace l (fcs N E).length) (faceOf l) (fcs N E).length (oN N E) l.length)
open Classical in
theorem asmB_yes {N E : List P2} {l : List Int} (h : wholeB N E = true) : asmB N E l = true ↔ AsmOk (besTo (sd N E) E.length) (isFace l (fcs N E).length) (faceOf l) (fcs N E).length (oN N E) l.length := by
  unfold asmB
  rw [h]
  simp
theorem asmB_no {N E : List P2} {l : List Int} (h : wholeB N E = false) : asmB N E l = false := by
  unfold asmB
  rw [h]
  rfl
theorem bool_no {v : Bool} {P : Prop} (h : v = true ↔ P) (hn : ¬ P) : v = false := by
  cases v with
  | false => rfl
  | true => exact absurd (h.1 rfl) hn
set_option maxRecDepth 20000 in
set_option maxHeartbeats 4000000 in
theorem IsAssembly_any (N E : List P2) (l : List Int) (A B C : Option Addr) (c c' c3 : Nat) (w : World) (hw : WR w N E A B c c') (hl : l.length ≤ 1048576) (hr : RI w C l) :
    Calls Try.prog 24 #[.agg #[.slice A N.length c, .slice B E.length c'], .slice C l.length c3] w fun e w' => e = .returned (.bool (asmB N E l)) ∧ Ext w w' := by
  have HW := hide hw
  have HR := hide hr
  obtain ⟨v, hv⟩ : ∃ v, asmB N E l = v := ⟨_, rfl⟩
  have HVV := hide hv
  rw [hv]
  clear hw hr hv
  
  go_enter Try.func24, Try.ntmps24
  go_wp2_with fail
  obtain ⟨w0, hw⟩ : ∃ w1, w1 = w.alloc (Obj.cells #[Value.slice A N.length c, Value.slice B E.length c'] 27) := ⟨_, rfl⟩; rw [← hw]; have kT : Tr [(w.heap.size, [.slice A N.length c, .slice B E.length c'])] w w0 := (by rw [hw]; exact ⟨by (first | (simp [Bx, CellsAt, go_sem, *]; done) | (simp [Bx, CellsAt, go_sem, *]; omega)), by (repeat (first | exact kE | exact Ext.refl _ | apply Ext.alloc | apply Ext.drewN | apply Ext.drew | apply Ext.set0 | apply Ext.set1 | apply Ext.set2 | apply Ext.set3 | (refine Ext.setk ?_ (by omega) _) | (apply Ext.snoc; assumption)))⟩); have HT := hide kT; clear hw kT; have kT := HT.out; simp only [Tr, Bx, CellsAt, Nat.reduceAdd, Nat.zero_add, and_true] at kT; obtain ⟨⟨kz0, kf0, kc0_0, kc0_1⟩, kE⟩ := kT
  have HC := IsWhole_any N E A B c c' w0 (HW.out.ext kE)
  refine HC.mono ?_
  rintro e w2 ⟨rfl, hb2⟩
  have HT' := hide (HT.out.ext hb2)
  clear hb2 HT
  have HT := HT'
  clear HT'
  clear kz0 kf0 kc0_0 kc0_1 kE
  have kT := HT.out; simp only [Tr, Bx, CellsAt, Nat.reduceAdd, Nat.zero_add, and_true] at kT; obtain ⟨⟨kz0, kf0, kc0_0, kc0_1⟩, kE⟩ := kT
  have HW2 := hide kE
  cases hwh : wholeB N E with
  | false =>
    have HV := hide (show v = false by rw [← HVV.out]; exact asmB_no hwh)
    clear hwh
    go_wp2_with fail
    go_ret
    exact ⟨ret_bool HV.out.symm, HW2.out⟩
  | true =>
    have HV := hide (asmB_yes (l := l) hwh)
    rw [HVV.out] at HV
    have hon := (outer_nat hwh).2
    have hl40 := fcs_len (N := N) (E := E)
    have HN := hide (neighbors_any N E A B c c' w2 (HW.out.ext kE) hwh)
    have HP := hide (fun (W : World) (hE : Ext w W) => paneSet_any N E A B c c' W (HW.out.ext hE) hwh)
    have hnb : ∀ f g, (nearV N E f).testBit g = besTo (sd N E) E.length f g := near_bit (sd N E) E.length
    have hnl : ∀ f, nearV N E f < 2 ^ (fcs N E).length := near_lt (sd_lt hwh) E.length
    have HBC := hide (bes_comm (sd N E) E.length)
    obtain ⟨n, hn⟩ : ∃ n, (fcs N E).length = n := ⟨_, rfl⟩
    obtain ⟨o, ho⟩ : ∃ o, oN N E = o := ⟨_, rfl⟩
    obtain ⟨nf, hnf⟩ : ∃ nf, nearV N E = nf := ⟨_, rfl⟩
    obtain ⟨b, hbb⟩ : ∃ b, besTo (sd N E) E.length = b := ⟨_, rfl⟩
    rw [hn, ho, hbb] at HV
    rw [hn] at hon hl40 HN HP hnl
    rw [ho] at hon HP
    rw [hnf] at hnl hnb
    rw [hbb] at hnb HBC
    rw [show (fun f => ((nearV N E f : Nat) : Int)) = fun f => ((nf f : Nat) : Int) from by rw [hnf]] at HN
    have HNB := hide hnb
    have HNL := hide hnl
    have HIS := hide (fun k (h : isFace l n k = true) => isFace_lt h)
    have HIN := hide (fun k (hk : k < l.length) (h : isFace l n k = true) => isFace_nat hk h)
    clear hwh hn ho hnf hbb hnb hnl
    go_wp2_with fail
    refine HN.out.mono ?_
    rintro e w6 ⟨g, c6, rfl, hown, hb6⟩
    have HO := hide hown
    have HR6 := hide (Rds.ext HR.out (HW2.out.trans hb6))
    have HT' := hide (HT.out.ext hb6)
    clear hown hb6 HT HN
    have HT := HT'
    clear HT'
    clear kz0 kf0 kc0_0 kc0_1 kE
    have kT := HT.out; simp only [Tr, Bx, CellsAt, Nat.reduceAdd, Nat.zero_add, and_true] at kT; obtain ⟨⟨kz0, kf0, kc0_0, kc0_1⟩, kE⟩ := kT
    have HE6 := hide kE
    have HZT := HT
    go_wp2_with fail
    clear kz0 kf0 kc0_0 kc0_1 kE
    clear HT
    go_loopw [6, 16] (fun s i wr => ∃ k : Nat, k ≤ l.length ∧ i = .int .i64 k ∧ s = .int .i64 (setTo (faceOf l) k : Nat) ∧ Hid (StepI b (isFace l n) (faceOf l) k) ∧ Hid (wr = w6)) (fun _ i _ => l.length - (intOf i).toNat)
    case atStart => exact ⟨0, Nat.zero_le _, rfl, rfl, hide (fun j hj => absurd hj (Nat.not_lt_zero j)), hide rfl⟩
    case round =>
      obtain ⟨k, hk, rfl, rfl, HS, HWW⟩ := hrel
      obtain rfl := HWW.out
      have HST := hide (show setTo (faceOf l) (k + 1) = setTo (faceOf l) k ||| 2 ^ faceOf l k from rfl)
      have HNX := hide (HS.out.next)
      have HLT := hide (setTo_lt (n := n) (F := faceOf l) k fun j hj => HIS.out j (HS.out j hj).1)
      have HNO := hide (fun (hk : k < l.length) (h : isFace l n k = false ∨ (setTo (faceOf l) k).testBit (faceOf l k) = true ∨ faceOf l k = o ∨ (k ≠ 0 ∧ ∀ i, i < k → b (faceOf l i) (faceOf l k) = false)) => bool_no HV.out (asm_no (b := b) hk h))
      have HEN := hide (fun (hkl : k = l.length) => asm_end (b := b) (R := isFace l n) (F := faceOf l) (n := n) (o := o) (m := l.length) hon (fun j hj => HIS.out j hj) (by rw [← hkl]; exact HS.out))
      have HNE := hide (near_ne (k := k) (F := faceOf l) HBC.out HNB.out)
      by_cases hlt : k < l.length
      · have hlz : (k : Int) < (l.length : Int) := by omega
        obtain ⟨ba, off, rfl, hba, hcell⟩ := RI.at_ HR6.out hlt
        have hwi := fun W => within_any l[k] 0 ((n : Int) - 1) W
        have HF := hide (show isFace l n k = inR l[k] 0 ((n : Int) - 1) by simp [isFace, List.getD, hlt])
        rw [show inR l[k] 0 ((n : Int) - 1) = isFace l n k from HF.out.symm] at hwi
        have HWI := hide hwi
        have HNAT := hide (HIN.out k hlt)
        clear hwi
        obtain ⟨s, hs⟩ : ∃ s, setTo (faceOf l) k = s := ⟨_, rfl⟩
        rw [hs] at HST HNX HLT HNO HNE ⊢
        clear hs
        cases hf : isFace l n k with
        | false =>
          rw [hf] at HWI
          have HVN := hide (HNO.out hlt (.inl hf))
          clear hf
          obtain ⟨x, hx⟩ : ∃ x, l[k] = x := ⟨_, rfl⟩
          rw [hx] at HWI hcell
          clear hx
          go_wp2_with fail
          refine (HWI.out _).mono ?_
          rintro e w' ⟨rfl, rfl⟩
          go_wp2_with fail
          go_ret
          exact ⟨ret_bool HVN.out.symm, HE6.out⟩
        | true =>
          have hfl := HIS.out k hf
          rw [hf] at HWI
          rw [HNAT.out hf] at HWI hcell
          obtain ⟨f, hff⟩ : ∃ f, faceOf l k = f := ⟨_, rfl⟩
          rw [hff] at HWI hcell hfl HNO HNE HST HNX
          have hsl := HLT.out
          have h40 : 2 ^ n ≤ 2 ^ 40 := Nat.pow_le_pow_right (by decide) hl40
          have b1 := bit_at s f (by omega)
          have b2 := i64_and (nf f) s (by have := HNL.out f; omega) (by omega)
          have b3 := or_shl (u := s) (f := f) (by omega) (by omega)
          rw [← wrap64_eq] at b3
          have cn := own_cellR HO.out hfl
          obtain ⟨x, hx⟩ : ∃ x, nf f = x := ⟨_, rfl⟩
          rw [hx] at cn b2 HNE
          obtain ⟨y, hy⟩ : ∃ y, x &&& s = y := ⟨_, rfl⟩
          rw [hy] at b2 HNE
          obtain ⟨z, hz⟩ : ∃ z, s ||| 2 ^ f = z := ⟨_, rfl⟩
          rw [hz] at b3 HST
          have HF2 := hide hf
          clear hff hx hy hz hsl h40 hf
          cases hb1 : s.testBit f with
          | true =>
            rw [hb1, if_pos rfl] at b1
            have HVN := hide (HNO.out hlt (.inr (.inl hb1)))
            clear hb1
            go_wp2_with fail
            refine (HWI.out _).mono ?_
            rintro e w' ⟨rfl, rfl⟩
            go_wp2_with fail
            go_ret
            exact ⟨ret_bool HVN.out.symm, HE6.out⟩
          | false =>
            have b1' : bits .and .i64 ((s : Int) / 2 ^ f) 1 = 0 := by rw [b1, hb1]; rfl
            have HB1 := hide hb1
            clear b1 hb1
            by_cases hk0 : k = 0
            · have q0 : decide ((k : Int) > 0) = false := decide_eq_false (by omega)
              have q0' : decide (k > 0) = false := decide_eq_false (by omega)
              have HGO := hide (HNX.out HF2.out HB1.out (.inl hk0))
              have q1 : ¬ (k : Int) > 0 := by omega
              have q2 : ¬ (0 : Int) < (k : Int) := by omega
              have q3 : ¬ 0 < k := by omega
              have q4 : decide ((0 : Int) < (k : Int)) = false := decide_eq_false q2
              have q5 : decide (0 < k) = false := decide_eq_false q3
              have HK0 := hide hk0
              clear hk0 q1 q2 q3
              go_wp2_with fail
              refine (HWI.out _).mono ?_
              rintro e w' ⟨rfl, rfl⟩
              go_wp2_with fail
              go_roundw
              case rel => exact ⟨k + 1, by omega, by go_num, by rw [HST.out], HGO, by first | exact hide rfl | exact hide trivial⟩
              case measure => simp [intOf]; omega
            · have q0 : decide ((k : Int) > 0) = true := decide_eq_true (by omega)
              have q0' : decide (k > 0) = true := decide_eq_true (by omega)
              have q4 : decide ((0 : Int) < (k : Int)) = true := decide_eq_true (by omega)
              have q5 : decide (0 < k) = true := decide_eq_true (by omega)
              by_cases hy0 : y = 0
              · have HVN := hide (HNO.out hlt (.inr (.inr (.inr ⟨hk0, fun i hi => by
                  cases hb : b (faceOf l i) f with
                  | false => rfl
                  | true => exact absurd hy0 (HNE.out.2 ⟨i, hi, hb⟩)⟩))))
                subst hy0
                have b2' : bits .and .i64 (x : Int) (s : Int) = 0 := b2
                clear b2
                go_wp2_with fail
                refine (HWI.out _).mono ?_
                rintro e w' ⟨rfl, rfl⟩
                go_wp2_with fail
                go_ret
                exact ⟨ret_bool HVN.out.symm, HE6.out⟩
              · have HGO := hide (HNX.out HF2.out HB1.out (.inr (HNE.out.1 hy0)))
                have p1 : ((y : Int) == 0) = false := by simp; omega
                have p2 : (y == 0) = false := by simp; omega
                clear hy0
                go_wp2_with fail
                refine (HWI.out _).mono ?_
                rintro e w' ⟨rfl, rfl⟩
                go_wp2_with fail
                go_roundw
                case rel => exact ⟨k + 1, by omega, by go_num, by rw [HST.out], HGO, by first | exact hide rfl | exact hide trivial⟩
                case measure => simp [intOf]; omega
      · have hkl : k = l.length := by omega
        have HEQ := hide (HEN.out hkl)
        have HKL := hide hkl
        clear hkl
        have HT := HZT
        have kT := HT.out; simp only [Tr, Bx, CellsAt, Nat.reduceAdd, Nat.zero_add, and_true] at kT; obtain ⟨⟨kz0, kf0, kc0_0, kc0_1⟩, kE⟩ := kT
        go_wp2_with fail
        refine (HP.out _ HE6.out).mono ?_
        rintro e w7 ⟨rfl, hb7⟩
        have HE7 := hide (HE6.out.trans hb7)
        clear hb7
        go_wp2_with fail
        go_ret
        refine ⟨ret_bool ?_, HE7.out⟩
        rw [int_beq, HKL.out, Bool.eq_iff_iff, beq_iff_eq, HEQ.out, HV.out]
theorem MatB.top {w : World} {B U hd n : Nat} {Th Te : TypeId} {f : Nat → Nat → Bool} (h : MatB w B U hd n Th Te f) : MatB w B w.heap.size hd n Th Te f := by
  obtain ⟨G, hs, h1, h0, h2, h3, h5, h6⟩ := h
  exact ⟨G, hs, h1, h2.lt, h2, h3, fun i hi => ⟨(h5 i hi).1, (h5 i hi).2.1, (h5 i hi).2.2.2.2.lt, (h5 i hi).2.2.2⟩, h6⟩
theorem MatB.setk {w : World} {B U hd n k i : Nat} {u : Value} {Th Te : TypeId} {f : Nat → Nat → Bool} (h : MatB w B U hd n Th Te f) (hk : U ≤ k) : MatB (w.setCell ⟨k, i, none⟩ u) B U hd n Th Te f := by
  obtain ⟨G, hs, h1, h0, h2, h3, h5, h6⟩ := h
  exact ⟨G, hs, h1, h0, h2.other (by omega) _, h3, fun j hj => ⟨(h5 j hj).1, (h5 j hj).2.1, (h5 j hj).2.2.1, (h5 j hj).2.2.2.1, (h5 j hj).2.2.2.2.other (by have := (h5 j hj).2.2.1; omega) _⟩, h6⟩
theorem rowB_falses (n : Nat) : (madeCells (Value.bool false).cells (n * 1)).toList = rowB n (fun _ => false) := by
  rw [made_falses, rowB_zero]
theorem own_cellB {w : World} {B g n c k : Nat} {T : TypeId} {f : Nat → Bool} (h : w.ownsRow B T 1 (.slice (some ⟨g, 0, none⟩) n c) n (rowB n f)) (hk : k < n) : w.cell? ⟨g, k, none⟩ = some (.bool (f k)) := by
  rw [h.cellAt k (by omega)]
  exact rowB_get f hk
theorem setTo_row (F : Nat → Nat) (k : Nat) : (fun j => if j = F k then true else (setTo F k).testBit j) = fun j => (setTo F (k + 1)).testBit j := by
  funext j
  simp only [setTo]
  rw [Nat.testBit_or, Nat.testBit_two_pow]
  by_cases h : j = F k
  · simp [h]
  · rw [if_neg h, decide_eq_false (fun e => h e.symm), Bool.or_false]
theorem start_beside (b : Nat → Nat → Bool) (F : Nat → Nat) (k : Nat) : besideTo b F k 0 = ((k : Int) == 0) := by
  rw [Bool.eq_iff_iff]
  simp [besideTo]
theorem asm_len {b : Nat → Nat → Bool} {R : Nat → Bool} {F : Nat → Nat} {n o m : Nat} (h : StepI b R F m) (h2 : ∀ j, j < m → F j ≠ o) : AsmOk b R F n o m ↔ m + 1 = n := ⟨fun q => q.1, fun q => ⟨q, h, h2⟩⟩
end Go.Proofs.Ytabgcpoaepafjaa
