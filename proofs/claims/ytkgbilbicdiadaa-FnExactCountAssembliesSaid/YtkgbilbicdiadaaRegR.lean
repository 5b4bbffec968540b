/- A region whose operations may come in several orders, shown operation by operation over a frame of which only the slots that are read are named. No condition. -/
import Derived.Test.YtkgbilbicdiadaaReg
set_option linter.unusedSimpArgs false
set_option linter.unusedVariables false
namespace Go.Proofs.Ytkgbilbicdiadaa
open Go.RowKit

section
variable {P : Program} {ops : Array Oper} {Q : Exit → Act → World → Prop}

/-- Slot t of a frame. -/
def sl (a : Act) (t : Nat) : Value := a.tmps.getD t undef
theorem sl_def (a : Act) (t : Nat) : a.tmps.getD t undef = sl a t := rfl
theorem sl_def' (a : Act) (t : Nat) : a.tmps[t]?.getD undef = sl a t := by simp [sl]
def slo (a : Act) : Option Tmp → Value
  | some d => sl a d
  | none => undef
/-- The first m operations write slot t. -/
def writesB (ops : Array Oper) (m t : Nat) : Bool := (List.range m).any fun i => dstAt ops i == some t

theorem sl_put_ne (a : Act) (x : Option Tmp) (v : Value) (t : Nat) (h : x ≠ some t) : sl (a.put x v) t = sl a t := by
  cases x with
  | none => rfl
  | some d =>
    have hd : d ≠ t := fun e => h (by rw [e])
    simp [sl, Act.put, Array.getElem?_setIfInBounds_ne hd]
theorem sl_put_eq (a : Act) (d : Tmp) (v : Value) (h : d < a.tmps.size) : sl (a.put (some d) v) d = v := by
  simp [sl, Act.put, h]

theorem act_ext {a b : Act} (hd : a.defers = b.defers) (hs : a.tmps.size = b.tmps.size) (h : ∀ t, sl a t = sl b t) : a = b := by
  cases a with
  | mk ta da =>
    cases b with
    | mk tb db =>
      simp only at hd hs
      subst hd
      have : ta = tb := by
        apply Array.ext hs
        intro i h1 h2
        have := h i
        simpa [sl, h1, h2] using this
      rw [this]

theorem fillA_size (a : Act) (X : Nat → Value) : ∀ m, (fillA ops a X m).tmps.size = a.tmps.size
  | 0 => rfl
  | k + 1 => by
    rw [fillA_succ]
    cases dstAt ops k <;> simp [Act.put, fillA_size a X k]
theorem fillA_defers (a : Act) (X : Nat → Value) : ∀ m, (fillA ops a X m).defers = a.defers
  | 0 => rfl
  | k + 1 => by
    rw [fillA_succ]
    cases dstAt ops k <;> simp [Act.put, fillA_defers a X k]
theorem sl_fillA_other (a : Act) (X : Nat → Value) (t : Nat) : ∀ m, (∀ i, i < m → dstAt ops i ≠ some t) → sl (fillA ops a X m) t = sl a t
  | 0, _ => rfl
  | k + 1, h => by
    rw [fillA_succ, sl_put_ne _ _ _ _ (h k (by omega)), sl_fillA_other a X t k (fun i hi => h i (by omega))]
theorem sl_fillA_at (a : Act) (X : Nat → Value) (m i : Nat) (hap : apartB ops m = true) (hi : i < m) (d : Tmp) (hd : dstAt ops i = some d) (hlt : d < a.tmps.size) : sl (fillA ops a X m) d = X i := by
  have gen : ∀ k, k ≤ m → i < k → sl (fillA ops a X k) d = X i := by
    intro k
    induction k with
    | zero => intro _ h; omega
    | succ k ih =>
      intro hk hik
      rw [fillA_succ]
      by_cases h : i = k
      · subst h
        rw [hd, sl_put_eq _ _ _ (by rw [fillA_size]; exact hlt)]
      · rw [sl_put_ne _ _ _ _ (fun e => apart_of hap hi (by omega) h d hd e), ih (by omega) (by omega)]
  exact gen m (Nat.le_refl _) hi

/-- What operation i leaves. -/
def OpK (ops : Array Oper) (V : Nat → Value → World → Prop) (a : Act) (w : World) (i : Nat) (a'' : Act) (w'' : World) : Prop :=
  ∃ v, a'' = a.put (dstAt ops i) v ∧ V i v w'' ∧ Ext w w''

/-- All of the first m operations have a destination, and it is a slot of the frame. -/
def insideB (ops : Array Oper) (m n : Nat) : Bool := (List.range m).all fun i => match dstAt ops i with | some d => decide (d < n) | none => false

theorem wp_region_R {a0 : Act} {w : World} {id : Nat} (m n : Nat) (hm : P.follows .mixedOrders = true) (V : Nat → Value → World → Prop)
    (hmn : decide (m ≤ ops.size) = true) (hap : apartB ops m = true) (hb : backB ops = true) (ht : tailB ops m = true) (hin : insideB ops m n = true) (hsz : a0.tmps.size = n)
    (hstab : ∀ i v w w', V i v w → Ext w w' → V i v w')
    (hop : ∀ i, i < m → ∀ (a : Act) (w' : World), Ext w w' → (∀ t, writesB ops m t = false → sl a t = sl a0 t) → (∀ j, waits ops i j = true → V j (slo a (dstAt ops j)) w') →
      wpOp P ops Q i (OpK ops V a w' i) a w')
    (hfin : ∀ (X : Nat → Value) (w' : World), Ext w w' → (∀ j, j < m → V j (X j) w') → wpList P ops Q (ops.toList.drop m) (fillA ops a0 X m) w') :
    (Code.region id ops true).wp P Q a0 w := by
  have hmn' : m ≤ ops.size := of_decide_eq_true hmn
  have inside : ∀ i, i < m → ∃ d, dstAt ops i = some d ∧ d < n := by
    intro i hi
    have := List.all_eq_true.1 hin i (List.mem_range.2 hi)
    cases hd : dstAt ops i with
    | none => simp [hd] at this
    | some d => exact ⟨d, rfl, by simpa [hd] using this⟩
  have unwritten : ∀ t, writesB ops m t = false → ∀ i, i < m → dstAt ops i ≠ some t := by
    intro t ht i hi e
    have : writesB ops m t = true := List.any_eq_true.2 ⟨i, List.mem_range.2 hi, by simp [e]⟩
    rw [ht] at this
    cases this
  refine wp_region_any hm ?_
  have main : ∀ (fuel : Nat) (listed : Array Bool) (a : Act) (w' : World), listed.size = ops.size → open_ listed = fuel → Ext w w' → a.defers = a0.defers → a.tmps.size = n →
      (∀ t, writesB ops m t = false → sl a t = sl a0 t) →
      (∀ j, m ≤ j → listed.getD j false = false) → (∀ j, j < m → listed.getD j false = true → V j (slo a (dstAt ops j)) w') → wpAny P .any ops Q fuel listed a w' := by
    intro fuel
    have fin : ∀ (a : Act) (w' : World), Ext w w' → a.defers = a0.defers → a.tmps.size = n → (∀ t, writesB ops m t = false → sl a t = sl a0 t) →
        (∀ j, j < m → V j (slo a (dstAt ops j)) w') → wpOps P ops Q (List.range' m (ops.size - m)) a w' := by
      intro a w' hE hd hs hbase hV
      have he : fillA ops a0 (fun j => slo a (dstAt ops j)) m = a := by
        refine act_ext (by rw [fillA_defers, hd]) (by rw [fillA_size, hs, hsz]) (fun t => ?_)
        rcases hw : writesB ops m t with _ | _
        · rw [sl_fillA_other _ _ _ _ (unwritten t hw), hbase t hw]
        · obtain ⟨i, hi, hit⟩ := List.any_eq_true.1 hw
          have hi := List.mem_range.1 hi
          have hit : dstAt ops i = some t := by simpa using hit
          obtain ⟨d, hd', hdn⟩ := inside i hi
          rw [hit] at hd'
          injection hd' with hd'
          subst hd'
          rw [sl_fillA_at _ _ m i hap hi t hit (by rw [hsz]; exact hdn), hit]
          rfl
      have := hfin (fun j => slo a (dstAt ops j)) w' hE hV
      rw [he] at this
      exact wpOps_tail this
    induction fuel with
    | zero =>
      intro listed a w' hs ho hE hd hn hbase htl hV
      have hall := open_none ho
      have hge : ops.size ≤ m := by
        rcases Nat.lt_or_ge m ops.size with hlt | hge
        · have h1 := hall m
          have h2 := htl m (Nat.le_refl _)
          have hms : m < listed.size := by omega
          simp [hms] at h1 h2
          rw [h1] at h2
          cases h2
        · exact hge
      refine wpAny_tail hb m ht 0 m listed _ w' (Nat.le_refl _) hs ho (fun j => ?_) (fin a w' hE hd hn hbase (fun j hj => hV j hj ?_))
      · by_cases hj : j < listed.size
        · have := hall j
          simp [hj] at this
          simp [hj, this]
          omega
        · simp [hj]
          omega
      · have hjs : j < listed.size := by omega
        have := hall j
        simp [hjs] at this
        simp [hjs, this]
    | succ fuel ih =>
      intro listed a w' hs ho hE hd hn hbase htl hV
      by_cases hheads : ∀ j, j < m → listed.getD j false = true
      · refine wpAny_tail hb m ht (fuel + 1) m listed _ w' (Nat.le_refl _) hs ho (fun j => ?_) (fin a w' hE hd hn hbase (fun j hj => hV j hj (hheads j hj)))
        constructor
        · intro h
          have hjm : j < m := by
            rcases Nat.lt_or_ge j m with h1 | h1
            · exact h1
            · rw [htl j h1] at h; cases h
          exact ⟨hjm, by omega⟩
        · intro h
          exact hheads j h.1
      · have step : ∀ i, i ∈ Region.ready .any ops listed → i < m → wpOp P ops Q i (wpAny P .any ops Q fuel (listed.setIfInBounds i true)) a w' := by
          intro i hi him
          have hiu := (mem_ready.1 hi).1
          obtain ⟨di, hdi, hdin⟩ := inside i him
          refine wpOp_mono (fun a'' w'' => ?_) (hop i him a w' hE hbase (fun j hj => ?_))
          · rintro ⟨v, rfl, hVi, hE'⟩
            refine ih _ _ w'' (by simpa using hs) (by have := open_set hiu; omega) (hE.trans hE') (by rw [hdi]; exact hd) (by rw [hdi]; simpa [Act.put] using hn) (fun t ht' => ?_) (fun j hj => ?_) (fun j hj hjl => ?_)
            · rw [sl_put_ne _ _ _ _ (unwritten t ht' i him)]
              exact hbase t ht'
            · rw [getD_set_ne false (by omega)]
              exact htl j hj
            · obtain ⟨dj, hdj, _⟩ := inside j hj
              by_cases hji : j = i
              · subst hji
                rw [hdi]
                show V j (sl _ di) w''
                rw [sl_put_eq _ _ _ (by rw [hn]; exact hdin)]
                exact hVi
              · rw [getD_set_ne false (fun e => hji e.symm)] at hjl
                have h1 := hV j hj hjl
                rw [hdj] at h1 ⊢
                show V j (sl _ dj) w''
                rw [sl_put_ne _ _ _ _ (fun e => apart_of hap him hj (fun e => hji e.symm) dj e hdj)]
                exact hstab _ _ _ _ h1 hE'
          · have h1 := ready_waits hi hj
            have hjm : j < m := by
              rcases Nat.lt_or_ge j m with h2 | h2
              · exact h2
              · rw [htl j h2] at h1; cases h1
            exact hV j hjm h1
        refine ⟨fun hr => ?_, fun i hi => ?_⟩
        · exfalso
          apply hheads
          intro j
          induction j using Nat.strongRecOn with
          | _ j ihj =>
            intro hj
            rcases hlj : listed.getD j false with _ | _
            · exfalso
              have hjs : j < listed.size := by omega
              have hju : listed.getD j true = false := by simpa [hjs] using hlj
              have := ready_least hb (by omega) hju (fun i hi => ihj i hi (by omega))
              rw [hr] at this
              cases this
            · rfl
        · rcases Nat.lt_or_ge i m with him | him
          · exact step i hi him
          · exfalso
            apply hheads
            intro j hj
            obtain ⟨_, o, ho', _⟩ := mem_ready.1 hi
            have hil : i < ops.size := (Array.getElem?_eq_some_iff.1 ho').1
            have hti := List.all_eq_true.1 ht i (List.mem_range.2 hil)
            have hni : ¬ i < m := by omega
            simp only [hni, decide_false, Bool.false_or] at hti
            exact ready_waits hi (List.all_eq_true.1 hti j (List.mem_range.2 (by omega)))
  exact main ops.size (Array.replicate ops.size false) a0 w.drew (by simp) (by unfold open_; simp [List.countP_replicate]) (Ext.refl w).drew rfl hsz (fun _ _ => rfl)
    (fun j _ => by simp [Array.getElem?_replicate]; split <;> simp) (fun j _ h => by simp [Array.getElem?_replicate] at h; split at h <;> simp at h)
theorem wpOp_skipR {V : Nat → Value → World → Prop} {a : Act} {w : World} {i : Nat} {o : Oper} (hi : ops[i]? = some o) (hw : Region.wanted o (yielded ops a.tmps) = false) (hV : V i undef w) : wpOp P ops Q i (OpK ops V a w i) a w :=
  wpOp_off hi hw ⟨undef, by simp only [dstAt, hi, Option.bind_some], hV, Ext.refl _⟩
theorem yielded_at {a : Act} {j : Nat} {d : Tmp} {b : Bool} (hd : dstAt ops j = some d) (h : sl a d = .bool b) : yielded ops a.tmps j = some b := by
  unfold yielded
  have hd' : (ops[j]?).bind (·.dst) = some d := hd
  rw [hd']
  cases ht : a.tmps[d]? with
  | none => simp [sl, ht, undef] at h
  | some v =>
    have : v = .bool b := by simpa [sl, ht] using h
    subst this
    simp [ht]
theorem wanted_no {a : Act} {o : Oper} {j : Nat} {want b : Bool} (hg : o.guard = some (j, want)) (hy : yielded ops a.tmps j = some b) (hb : (b == want) = false) : Region.wanted o (yielded ops a.tmps) = false := by
  unfold Region.wanted
  rw [hg]
  simp only [hy]
  cases b <;> cases want <;> first | rfl | cases hb
theorem wanted_yes {a : Act} {o : Oper} {j : Nat} {want b : Bool} (hg : o.guard = some (j, want)) (hy : yielded ops a.tmps j = some b) (hb : (b == want) = true) : Region.wanted o (yielded ops a.tmps) = true := by
  unfold Region.wanted
  rw [hg]
  simp only [hy]
  cases b <;> cases want <;> first | rfl | cases hb
/-- The same over a list of properties. -/
theorem wp_region_RL {a0 : Act} {w : World} {id : Nat} (m n : Nat) (hm : P.follows .mixedOrders = true)
    (hmn : decide (m ≤ ops.size) = true) (hap : apartB ops m = true) (hb : backB ops = true) (ht : tailB ops m = true) (hin : insideB ops m n = true) (hsz : a0.tmps.size = n)
    (L : List (Value → World → Prop)) (hL : L.length = m) (hstab : StabL L)
    (hop : ∀ (a : Act) (w' : World), Ext w w' → (∀ t, writesB ops m t = false → sl a t = sl a0 t) →
      AllBelow (fun i => (∀ j, waits ops i j = true → VL L j (slo a (dstAt ops j)) w') → wpOp P ops Q i (OpK ops (VL L) a w' i) a w') m)
    (hfin : ∀ (X : Nat → Value) (w' : World), Ext w w' → AllBelow (fun j => VL L j (X j) w') m → wpList P ops Q (ops.toList.drop m) (fillA ops a0 X m) w') :
    (Code.region id ops true).wp P Q a0 w := by
  subst hL
  exact wp_region_R L.length n hm (VL L) hmn hap hb ht hin hsz (fun i v w w' h hE => stab_at L hstab i v w w' h hE)
    (fun i hi a w' hE hA hp => allBelow (hop a w' hE hA) i hi hp) (fun X w' hE hp => hfin X w' hE (by
      have : ∀ k, k ≤ L.length → AllBelow (fun j => VL L j (X j) w') k := by
        intro k
        induction k with
        | zero => intro _; trivial
        | succ k ih => intro hk; exact ⟨ih (by omega), hp k (by omega)⟩
      exact this _ (Nat.le_refl _)))
end
end Go.Proofs.Ytkgbilbicdiadaa
