/- Words and walks for the law FnMatches, a part of them. No condition but that the arguments lie in memory. -/
import Derived.Test.YtabgcpoaepafjaaGreatU2
import Derived.Deep.QuietTactic
import Derived.Deep.RegionHeld3
set_option linter.unusedVariables false
set_option linter.unusedSimpArgs false
namespace Go.Proofs.YtabgcpoaepafjaaGreat
open Go.RowKit
section
variable {P : Program} {ops : Array Oper} {Q : Exit → Act → World → Prop}
def fillA (ops : Array Oper) (a : Act) (X : Nat → Value) : Nat → Act
  | 0 => a
  | k + 1 => match ops[k]? with
    | some o => (fillA ops a X k).put o.dst (X k)
    | none => fillA ops a X k
def dstAt (ops : Array Oper) (i : Nat) : Option Tmp := (ops[i]?).bind (·.dst)
theorem fillA_succ (a : Act) (X : Nat → Value) (k : Nat) : fillA ops a X (k + 1) = (fillA ops a X k).put (dstAt ops k) (X k) := by
  unfold dstAt
  simp only [fillA]
  cases h : ops[k]? <;> simp [Act.put]
theorem put_put (a : Act) (x : Option Tmp) (u v : Value) : (a.put x u).put x v = a.put x v := by
  cases x with
  | none => rfl
  | some d => simp [Act.put]
theorem put_self (a : Act) (x : Option Tmp) : a.put x (match x with | some d => a.tmps.getD d undef | none => undef) = a := by
  cases x with
  | none => rfl
  | some d =>
    simp only [Act.put]
    have : a.tmps.setIfInBounds d (a.tmps.getD d undef) = a.tmps := by
      apply Array.ext_getElem?
      intro j
      by_cases h : d = j
      · subst h
        by_cases hl : d < a.tmps.size
        · simp [hl]
        · simp [hl]
      · simp [Array.getElem?_setIfInBounds_ne h]
    rw [this]
/-- The slots that the first m operations write are different. -/
def apartB (ops : Array Oper) (m : Nat) : Bool :=
  (List.range m).all fun i => (List.range m).all fun j => i == j || match dstAt ops i, dstAt ops j with | some d, some e => d != e | _, _ => true
theorem apart_of {m i j : Nat} (h : apartB ops m = true) (hi : i < m) (hj : j < m) (hne : i ≠ j) : ∀ d, dstAt ops i = some d → dstAt ops j ≠ some d := by
  intro d hd hd'
  have h1 := List.all_eq_true.1 h i (List.mem_range.2 hi)
  have h2 := List.all_eq_true.1 h1 j (List.mem_range.2 hj)
  simp [hd, hd', hne] at h2
theorem fillA_upd (a : Act) (m : Nat) (h : apartB ops m = true) (i : Nat) (hi : i < m) (X : Nat → Value) (v : Value) :
    (fillA ops a X m).put (dstAt ops i) v = fillA ops a (fun j => if j = i then v else X j) m := by
  have gen : ∀ k, k ≤ m → (if i < k then (fillA ops a X k).put (dstAt ops i) v else fillA ops a X k) = fillA ops a (fun j => if j = i then v else X j) k := by
    intro k
    induction k with
    | zero => intro _; simp [fillA]
    | succ k ih =>
      intro hk
      have ih := ih (by omega)
      rw [fillA_succ, fillA_succ]
      by_cases hik : i < k
      · rw [if_pos hik] at ih
        rw [if_pos (by omega), ← ih, if_neg (by omega)]
        rw [Act.put_comm _ _ _ (apart_of h (i := k) (j := i) (by omega) hi (by omega))]
      · rw [if_neg hik] at ih
        by_cases hk' : i = k
        · subst hk'
          rw [if_pos (by omega), put_put, ← ih, if_pos rfl]
        · rw [if_neg (by omega), ← ih, if_neg (fun e => hk' e.symm)]
  have := gen m (Nat.le_refl _)
  rwa [if_pos hi] at this
theorem fillA_self (a : Act) : ∀ m, fillA ops a (fun j => match dstAt ops j with | some d => a.tmps.getD d undef | none => undef) m = a := by
  intro m
  induction m with
  | zero => rfl
  | succ k ih =>
    rw [fillA_succ, ih]
    exact put_self a (dstAt ops k)
/-- Operation i must wait for operation j. -/
def waits (ops : Array Oper) (i j : Nat) : Bool := ((ops[i]?).map fun o => o.after.toList.any fun e => e.on == j && Region.binds .any e).getD false
/-- Every operation waits for earlier ones alone. -/
def backB (ops : Array Oper) : Bool := (List.range ops.size).all fun i => ((ops[i]?).map fun o => o.after.all fun e => decide (e.on < i)).getD true
/-- From m on each operation waits for all before it. -/
def tailB (ops : Array Oper) (m : Nat) : Bool := (List.range ops.size).all fun i => decide (i < m) || (List.range i).all fun j => waits ops i j
theorem ready_waits {listed : Array Bool} {i j : Nat} (h : i ∈ Region.ready .any ops listed) (hw : waits ops i j = true) : listed.getD j false = true := by
  obtain ⟨_, o, ho, hall⟩ := mem_ready.1 h
  unfold waits at hw
  rw [ho] at hw
  simp only [Option.map_some, Option.getD_some, List.any_eq_true] at hw
  obtain ⟨e, he, hp⟩ := hw
  simp only [Bool.and_eq_true, beq_iff_eq] at hp
  have := hall e (by simpa using he) hp.2
  rwa [hp.1] at this
theorem ready_least {listed : Array Bool} (hb : backB ops = true) {i : Nat} (hi : i < ops.size) (hu : listed.getD i true = false) (hl : ∀ j, j < i → listed.getD j false = true) : i ∈ Region.ready .any ops listed := by
  refine mem_ready.2 ⟨hu, ops[i], by simp [hi], fun e he _ => hl _ ?_⟩
  have h1 := List.all_eq_true.1 hb i (List.mem_range.2 hi)
  rw [Array.getElem?_eq_getElem hi] at h1
  simp only [Option.map_some, Option.getD_some, Array.all_eq_true] at h1
  obtain ⟨k, hk, rfl⟩ := Array.getElem_of_mem he
  simpa using h1 k hk
def open_ (listed : Array Bool) : Nat := listed.toList.countP fun b => !b
theorem open_set {listed : Array Bool} {i : Nat} (hi : listed.getD i true = false) : open_ (listed.setIfInBounds i true) + 1 = open_ listed := by
  unfold open_
  have hlt : i < listed.size := by
    rcases Nat.lt_or_ge i listed.size with h | h
    · exact h
    · simp [Array.getElem?_eq_none h] at hi
  have hv : listed[i] = false := by simpa [hlt] using hi
  have hlt' : i < listed.toList.length := by simpa using hlt
  rw [Array.toList_setIfInBounds, List.countP_set hlt']
  have hpos : 0 < listed.toList.countP (fun b => !b) := by
    rw [List.countP_pos_iff]
    exact ⟨false, by rw [← hv]; simp, rfl⟩
  have e : listed.toList[i] = false := by rw [Array.getElem_toList]; exact hv
  rw [e]
  simp only [Bool.not_false, Bool.not_true, if_true, Bool.false_eq_true, if_false]
  omega
theorem open_none {listed : Array Bool} (h : open_ listed = 0) (i : Nat) : listed.getD i true = true := by
  unfold open_ at h
  rw [List.countP_eq_zero] at h
  by_cases hlt : i < listed.size
  · have := h listed[i] (by simp)
    simp at this
    simp [hlt, this]
  · simp [hlt]
/-- The tail: from m on the order is forced. -/
theorem wpAny_tail (hb : backB ops = true) (m0 : Nat) (ht : tailB ops m0 = true) : ∀ (fuel m : Nat) (listed : Array Bool) (a : Act) (w : World), m0 ≤ m → listed.size = ops.size → open_ listed = fuel →
    (∀ j, listed.getD j false = true ↔ j < m ∧ j < ops.size) → wpOps P ops Q (List.range' m (ops.size - m)) a w → wpAny P .any ops Q fuel listed a w := by
  intro fuel
  induction fuel with
  | zero =>
    intro m listed a w hm hs ho hl h
    have hall := open_none ho
    have hr : Region.ready .any ops listed = [] := by
      apply List.eq_nil_iff_forall_not_mem.2
      intro i hi
      have := (mem_ready.1 hi).1
      rw [hall i] at this
      cases this
    have hge : ops.size ≤ m := by
      rcases Nat.lt_or_ge m ops.size with hlt | hge
      · have h1 := hall m
        have h2 : listed.getD m false = true := by
          have hms : m < listed.size := by omega
          simpa [hms] using h1
        have := ((hl m).1 h2).1
        omega
      · exact hge
    refine ⟨hr, ?_⟩
    have : ops.size - m = 0 := by omega
    rw [this] at h
    simpa [wpOps] using h
  | succ fuel ih =>
    intro m listed a w hm hs ho hl h
    have hlt : m < ops.size := by
      rcases Nat.lt_or_ge m ops.size with hlt | hge
      · exact hlt
      · have : open_ listed = 0 := by
          unfold open_
          rw [List.countP_eq_zero]
          intro b hbm
          obtain ⟨j, hj, rfl⟩ := List.getElem_of_mem hbm
          have hj' : j < listed.size := by simpa using hj
          have := (hl j).2 ⟨by omega, by omega⟩
          simp [hj'] at this
          simp [this]
        omega
    have hmu : listed.getD m true = false := by
      have hms : m < listed.size := by omega
      have : ¬ listed.getD m false = true := fun h' => by have := ((hl m).1 h').1; omega
      simp [hms] at this
      simp [hms, this]
    have hrm : m ∈ Region.ready .any ops listed := ready_least hb hlt hmu (fun j hj => (hl j).2 ⟨hj, by omega⟩)
    refine ⟨fun hr => (by rw [hr] at hrm; cases hrm), fun i hi => ?_⟩
    have him : i = m := by
      obtain ⟨hiu, o, ho', hall⟩ := mem_ready.1 hi
      have hil : i < ops.size := (Array.getElem?_eq_some_iff.1 ho').1
      rcases Nat.lt_trichotomy i m with h1 | h1 | h1
      · have := (hl i).2 ⟨h1, hil⟩
        have his : i < listed.size := by omega
        simp [his] at this hiu
        rw [this] at hiu
        cases hiu
      · exact h1
      · have hti := List.all_eq_true.1 ht i (List.mem_range.2 hil)
        have hni : ¬ i < m0 := by omega
        simp only [hni, decide_false, Bool.false_or] at hti
        have := List.all_eq_true.1 hti m (List.mem_range.2 h1)
        have h2 := ready_waits hi this
        have := ((hl m).1 h2).1
        omega
    subst him
    have hsz : ops.size - i = (ops.size - (i + 1)) + 1 := by omega
    rw [hsz, List.range'_succ, wpOps_cons] at h
    refine wpOp_mono (fun a' w' h' => ?_) h
    refine ih (i + 1) _ a' w' (by omega) (by simpa using hs) (by have := open_set hmu; omega) (fun j => ?_) h'
    by_cases hij : i = j
    · subst hij
      have his : i < listed.size := by omega
      simp [his]
      omega
    · rw [getD_set_ne false hij, hl j]
      omega
theorem wp_region_V {a : Act} {w : World} {id : Nat} (hm : P.follows .mixedOrders = true) (m : Nat) (V : Nat → Value → World → Prop)
    (hmn : decide (m ≤ ops.size) = true) (hap : apartB ops m = true) (hb : backB ops = true) (ht : tailB ops m = true)
    (hstab : ∀ i v w w', V i v w → Ext w w' → V i v w')
    (hop : ∀ i, i < m → ∀ (X : Nat → Value) (w' : World), Ext w w' → (∀ j, waits ops i j = true → V j (X j) w') →
      wpOp P ops Q i (fun a'' w'' => ∃ v, a'' = (fillA ops a X m).put (dstAt ops i) v ∧ V i v w'' ∧ Ext w' w'') (fillA ops a X m) w')
    (hfin : ∀ (X : Nat → Value) (w' : World), Ext w w' → (∀ j, j < m → V j (X j) w') → wpOps P ops Q (List.range' m (ops.size - m)) (fillA ops a X m) w') :
    (Code.region id ops true).wp P Q a w := by
  have hmn' : m ≤ ops.size := of_decide_eq_true hmn
  refine wp_region_any hm ?_
  have main : ∀ (fuel : Nat) (listed : Array Bool) (X : Nat → Value) (w' : World), listed.size = ops.size → open_ listed = fuel → Ext w w' →
      (∀ j, m ≤ j → listed.getD j false = false) → (∀ j, j < m → listed.getD j false = true → V j (X j) w') → wpAny P .any ops Q fuel listed (fillA ops a X m) w' := by
    intro fuel
    induction fuel with
    | zero =>
      intro listed X w' hs ho hE htl hV
      have hall := open_none ho
      have hge : ops.size ≤ m := by
        rcases Nat.lt_or_ge m ops.size with hlt | hge
        · have h1 := hall m
          have h2 := htl m (Nat.le_refl _)
          have hms : m < listed.size := by omega
          simp [hms] at h1 h2
          rw [h1] at h2
          cases h2
        · exact hge
      refine wpAny_tail hb m ht 0 m listed _ w' (Nat.le_refl _) hs ho (fun j => ?_) (hfin X w' hE (fun j hj => hV j hj ?_))
      · by_cases hj : j < listed.size
        · have := hall j
          simp [hj] at this
          simp [hj, this]
          omega
        · simp [hj]
          omega
      · have hjs : j < listed.size := by omega
        have := hall j
        simp [hjs] at this
        simp [hjs, this]
    | succ fuel ih =>
      intro listed X w' hs ho hE htl hV
      by_cases hheads : ∀ j, j < m → listed.getD j false = true
      · refine wpAny_tail hb m ht (fuel + 1) m listed _ w' (Nat.le_refl _) hs ho (fun j => ?_) (hfin X w' hE (fun j hj => hV j hj (hheads j hj)))
        constructor
        · intro h
          have hjm : j < m := by
            rcases Nat.lt_or_ge j m with h1 | h1
            · exact h1
            · rw [htl j h1] at h; cases h
          exact ⟨hjm, by omega⟩
        · intro h
          exact hheads j h.1
      · have step : ∀ i, i ∈ Region.ready .any ops listed → i < m → wpOp P ops Q i (wpAny P .any ops Q fuel (listed.setIfInBounds i true)) (fillA ops a X m) w' := by
          intro i hi him
          have hiu := (mem_ready.1 hi).1
          refine wpOp_mono (fun a'' w'' => ?_) (hop i him X w' hE (fun j hj => ?_))
          · rintro ⟨v, rfl, hVi, hE'⟩
            rw [fillA_upd a m hap i him X v]
            refine ih _ _ w'' (by simpa using hs) (by have := open_set hiu; omega) (hE.trans hE') (fun j hj => ?_) (fun j hj hjl => ?_)
            · rw [getD_set_ne false (by omega)]
              exact htl j hj
            · by_cases hji : j = i
              · subst hji
                simpa using hVi
              · rw [if_neg hji]
                rw [getD_set_ne false (fun e => hji e.symm)] at hjl
                exact hstab _ _ _ _ (hV j hj hjl) hE'
          · have h1 := ready_waits hi hj
            have hjm : j < m := by
              rcases Nat.lt_or_ge j m with h2 | h2
              · exact h2
              · rw [htl j h2] at h1; cases h1
            exact hV j hjm h1
        refine ⟨fun hr => ?_, fun i hi => ?_⟩
        · exfalso
          apply hheads
          intro j
          induction j using Nat.strongRecOn with
          | _ j ihj =>
            intro hj
            rcases hlj : listed.getD j false with _ | _
            · exfalso
              have hjs : j < listed.size := by omega
              have hju : listed.getD j true = false := by simpa [hjs] using hlj
              have := ready_least hb (by omega) hju (fun i hi => ihj i hi (by omega))
              rw [hr] at this
              cases this
            · rfl
        · rcases Nat.lt_or_ge i m with him | him
          · exact step i hi him
          · exfalso
            apply hheads
            intro j hj
            obtain ⟨_, o, ho', _⟩ := mem_ready.1 hi
            have hil : i < ops.size := (Array.getElem?_eq_some_iff.1 ho').1
            have hti := List.all_eq_true.1 ht i (List.mem_range.2 hil)
            have hni : ¬ i < m := by omega
            simp only [hni, decide_false, Bool.false_or] at hti
            exact ready_waits hi (List.all_eq_true.1 hti j (List.mem_range.2 (by omega)))
  have h0 := main ops.size (Array.replicate ops.size false) (fun j => match dstAt ops j with | some d => a.tmps.getD d undef | none => undef) w.drew (by simp)
    (by unfold open_; simp [List.countP_replicate]) (Ext.refl w).drew (fun j _ => by simp [Array.getElem?_replicate]; split <;> simp) (fun j _ h => by simp [Array.getElem?_replicate] at h; split at h <;> simp at h)
  rw [fillA_self] at h0
  exact h0
theorem upon_then {K : Act → World → Prop} {o : Oper} {a : Act} {next : Act → World → Prop} {r : Result Next} (h : o.upon P a next (Exit.then K Q) r) : o.upon P a next Q r := by
  cases r with
  | ok n w' =>
    cases n <;> simp only [Oper.upon] at h ⊢ <;> first | exact h | exact Calls.mono h (fun e w'' he => by cases e <;> exact he)
  | halt x w' => cases x <;> simp only [Oper.upon] at h ⊢ <;> exact h
theorem wpOp_of_list {i : Nat} {o : Oper} {a : Act} {w : World} {K : Act → World → Prop} (hi : ops[i]? = some o) (hg : o.guard = none) (h : wpList P ops (Exit.then K Q) [o] a w) : wpOp P ops Q i K a w := by
  unfold wpList at h
  unfold wpOp
  have hw : Region.wanted o (yielded ops a.tmps) = true := by simp [Region.wanted, hg]
  rw [if_pos hw] at h
  simp only [hi, hw, if_true]
  rcases h with h | ⟨h1, h2⟩
  · refine .inl (upon_then (K := K) ?_)
    exact h
  · exact .inr ⟨h1, h2⟩
/-- What operation i leaves: its value in its slot, nothing else in the frame; nothing old has turned. -/
def RegPost (ops : Array Oper) (V : Nat → Value → World → Prop) (a : Act) (w : World) (i : Nat) (a'' : Act) (w'' : World) : Prop :=
  ∃ v, a'' = a.put (dstAt ops i) v ∧ V i v w'' ∧ Ext w w''
theorem regpost {V : Nat → Value → World → Prop} {a a'' : Act} {w w'' : World} {i : Nat} {d : Tmp} {v : Value} (hd : dstAt ops i = some d) (hV : V i v w'') (ha : a'' = { a with tmps := a.tmps.setIfInBounds d v }) (hE : Ext w w'') : RegPost ops V a w i a'' w'' :=
  ⟨v, by rw [hd]; exact ha, hV, hE⟩
def AllBelow (p : Nat → Prop) : Nat → Prop
  | 0 => True
  | k + 1 => AllBelow p k ∧ p k
theorem allBelow {p : Nat → Prop} : ∀ {m : Nat}, AllBelow p m → ∀ i, i < m → p i
  | 0, _, i, h => absurd h (Nat.not_lt_zero i)
  | m + 1, h, i, hi => by
    rcases Nat.lt_or_ge i m with h1 | h1
    · exact allBelow h.1 i h1
    · have : i = m := by omega
      subst this
      exact h.2
def VL (L : List (Value → World → Prop)) (i : Nat) (v : Value) (w : World) : Prop := (L.getD i (fun _ _ => True)) v w
def Stab (p : Value → World → Prop) : Prop := ∀ v w w', p v w → Ext w w' → p v w'
def StabL : List (Value → World → Prop) → Prop
  | [] => True
  | p :: ps => Stab p ∧ StabL ps
theorem stab_eq (c : Value) : Stab (fun v _ => v = c) := fun _ _ _ h _ => h
theorem stab_at : ∀ (L : List (Value → World → Prop)), StabL L → ∀ i, Stab (VL L i)
  | [], _, i => fun _ _ _ _ _ => by simp [VL]
  | p :: ps, h, 0 => fun v w w' hv hE => by simpa [VL] using h.1 v w w' (by simpa [VL] using hv) hE
  | p :: ps, h, i + 1 => fun v w w' hv hE => by
    have := stab_at ps h.2 i v w w' (by simpa [VL] using hv) hE
    simpa [VL] using this
/-- Three stores into a block of the call's own. -/
theorem set3 {w : World} {g : Nat} {a b c : Value} {T : TypeId} {w0 : World} (h : w.heap[g]? = some (.cells #[a, b, c] T (0, 0))) (hE : Ext w0 w) (hg : w0.heap.size ≤ g) (x y z : Value) :
    ∃ w1, w1 = (((w.setCell ⟨g, 0, none⟩ x).setCell ⟨g, 1, none⟩ y).setCell ⟨g, 2, none⟩ z) ∧ Ext w0 w1 ∧ w1.heap[g]? = some (.cells #[x, y, z] T (0, 0)) ∧ w1.heap.size = w.heap.size := by
  refine ⟨_, rfl, ((hE.set hg x).set hg y).set hg z, ?_, by simp⟩
  have h1 := heap_setCell_same w g 0 _ T x h
  have h2 := heap_setCell_same _ g 1 _ T y h1
  have h3 := heap_setCell_same _ g 2 _ T z h2
  rw [h3]
  rfl
theorem set2 {w : World} {g : Nat} {a b : Value} {T : TypeId} {w0 : World} (h : w.heap[g]? = some (.cells #[a, b] T (0, 0))) (hE : Ext w0 w) (hg : w0.heap.size ≤ g) (x y : Value) :
    ∃ w1, w1 = ((w.setCell ⟨g, 0, none⟩ x).setCell ⟨g, 1, none⟩ y) ∧ Ext w0 w1 ∧ w1.heap[g]? = some (.cells #[x, y] T (0, 0)) ∧ w1.heap.size = w.heap.size := by
  refine ⟨_, rfl, (hE.set hg x).set hg y, ?_, by simp⟩
  have h1 := heap_setCell_same w g 0 _ T x h
  have h2 := heap_setCell_same _ g 1 _ T y h1
  rw [h2]
  rfl
theorem wpOps_tail {m : Nat} {a : Act} {w : World} (h : wpList P ops Q (ops.toList.drop m) a w) : wpOps P ops Q (List.range' m (ops.size - m)) a w := by
  have e := wpOps_eq_wpList (P := P) (ops := ops) (Q := Q) (ops.toList.drop m) m (fun j => by simp)
  have hl : (ops.toList.drop m).length = ops.size - m := by simp
  rw [hl] at e
  rw [e]
  exact h
theorem wp_region_VL {a : Act} {w : World} {id : Nat} (L : List (Value → World → Prop)) (hm : P.follows .mixedOrders = true)
    (hmn : decide (L.length ≤ ops.size) = true) (hap : apartB ops L.length = true) (hb : backB ops = true) (ht : tailB ops L.length = true)
    (hstab : StabL L)
    (hop : ∀ (X : Nat → Value) (w' : World), Ext w w' → AllBelow (fun i => (∀ j, waits ops i j = true → VL L j (X j) w') → wpOp P ops Q i (RegPost ops (VL L) (fillA ops a X L.length) w' i) (fillA ops a X L.length) w') L.length)
    (hfin : ∀ (X : Nat → Value) (w' : World), Ext w w' → AllBelow (fun j => VL L j (X j) w') L.length → wpList P ops Q (ops.toList.drop L.length) (fillA ops a X L.length) w') :
    (Code.region id ops true).wp P Q a w :=
  wp_region_V hm L.length (VL L) hmn hap hb ht (fun i v w w' h hE => stab_at L hstab i v w w' h hE)
    (fun i hi X w' hE hp => allBelow (hop X w' hE) i hi hp) (fun X w' hE hp => wpOps_tail <| hfin X w' hE (by
      have : ∀ k, k ≤ L.length → AllBelow (fun j => VL L j (X j) w') k := by
        intro k
        induction k with
        | zero => intro _; trivial
        | succ k ih => intro hk; exact ⟨ih (by omega), hp k (by omega)⟩
      exact this _ (Nat.le_refl _)))
end
attribute [go_sem] fillA dstAt
end Go.Proofs.YtabgcpoaepafjaaGreat
namespace Go.Proofs.YtabgcpoaepafjaaGreat
open Go.RowKit
section
variable {P : Program} {ops : Array Oper} {Q : Exit → Act → World → Prop}
/-- Slot t of a frame. -/
def sl (a : Act) (t : Nat) : Value := a.tmps.getD t undef
def slo (a : Act) : Option Tmp → Value
  | some d => sl a d
  | none => undef
/-- The first m operations write slot t. -/
def writesB (ops : Array Oper) (m t : Nat) : Bool := (List.range m).any fun i => dstAt ops i == some t
theorem sl_put_ne (a : Act) (x : Option Tmp) (v : Value) (t : Nat) (h : x ≠ some t) : sl (a.put x v) t = sl a t := by
  cases x with
  | none => rfl
  | some d =>
    have hd : d ≠ t := fun e => h (by rw [e])
    simp [sl, Act.put, Array.getElem?_setIfInBounds_ne hd]
theorem sl_put_eq (a : Act) (d : Tmp) (v : Value) (h : d < a.tmps.size) : sl (a.put (some d) v) d = v := by
  simp [sl, Act.put, h]
theorem act_ext {a b : Act} (hd : a.defers = b.defers) (hs : a.tmps.size = b.tmps.size) (h : ∀ t, sl a t = sl b t) : a = b := by
  cases a with
  | mk ta da =>
    cases b with
    | mk tb db =>
      simp only at hd hs
      subst hd
      have : ta = tb := by
        apply Array.ext hs
        intro i h1 h2
        have := h i
        simpa [sl, h1, h2] using this
      rw [this]
theorem fillA_size (a : Act) (X : Nat → Value) : ∀ m, (fillA ops a X m).tmps.size = a.tmps.size
  | 0 => rfl
  | k + 1 => by
    rw [fillA_succ]
    cases dstAt ops k <;> simp [Act.put, fillA_size a X k]
theorem fillA_defers (a : Act) (X : Nat → Value) : ∀ m, (fillA ops a X m).defers = a.defers
  | 0 => rfl
  | k + 1 => by
    rw [fillA_succ]
    cases dstAt ops k <;> simp [Act.put, fillA_defers a X k]
theorem sl_fillA_other (a : Act) (X : Nat → Value) (t : Nat) : ∀ m, (∀ i, i < m → dstAt ops i ≠ some t) → sl (fillA ops a X m) t = sl a t
  | 0, _ => rfl
  | k + 1, h => by
    rw [fillA_succ, sl_put_ne _ _ _ _ (h k (by omega)), sl_fillA_other a X t k (fun i hi => h i (by omega))]
theorem sl_fillA_at (a : Act) (X : Nat → Value) (m i : Nat) (hap : apartB ops m = true) (hi : i < m) (d : Tmp) (hd : dstAt ops i = some d) (hlt : d < a.tmps.size) : sl (fillA ops a X m) d = X i := by
  have gen : ∀ k, k ≤ m → i < k → sl (fillA ops a X k) d = X i := by
    intro k
    induction k with
    | zero => intro _ h; omega
    | succ k ih =>
      intro hk hik
      rw [fillA_succ]
      by_cases h : i = k
      · subst h
        rw [hd, sl_put_eq _ _ _ (by rw [fillA_size]; exact hlt)]
      · rw [sl_put_ne _ _ _ _ (fun e => apart_of hap hi (by omega) h d hd e), ih (by omega) (by omega)]
  exact gen m (Nat.le_refl _) hi
/-- All of the first m operations have a destination, and it is a slot of the frame. -/
def insideB (ops : Array Oper) (m n : Nat) : Bool := (List.range m).all fun i => match dstAt ops i with | some d => decide (d < n) | none => false
end
end Go.Proofs.YtabgcpoaepafjaaGreat
namespace Go.Proofs.YtabgcpoaepafjaaGreat
open Go.RowKit
section
variable {P : Program} {ops : Array Oper} {Q : Exit → Act → World → Prop}
/-- Every operation waits for earlier ones alone (edges that do not bind left aside). -/
def backW (ops : Array Oper) : Bool := (List.range ops.size).all fun i => ((ops[i]?).map fun o => o.after.all fun e => !Region.binds .any e || decide (e.on < i)).getD true
theorem ready_leastW {listed : Array Bool} (hb : backW ops = true) {i : Nat} (hi : i < ops.size) (hu : listed.getD i true = false) (hl : ∀ j, j < i → listed.getD j false = true) : i ∈ Region.ready .any ops listed := by
  refine mem_ready.2 ⟨hu, ops[i], by simp [hi], fun e he hbi => hl _ ?_⟩
  have h1 := List.all_eq_true.1 hb i (List.mem_range.2 hi)
  rw [Array.getElem?_eq_getElem hi] at h1
  simp only [Option.map_some, Option.getD_some, Array.all_eq_true] at h1
  obtain ⟨k, hk, rfl⟩ := Array.getElem_of_mem he
  have := h1 k hk
  rw [hbi] at this
  simpa using this
/-- Some operation is ready as long as one is open. -/
theorem ready_some {listed : Array Bool} (hb : backW ops = true) (hs : listed.size = ops.size) {i : Nat} (hi : i < ops.size) (hu : listed.getD i true = false) : Region.ready .any ops listed ≠ [] := by
  induction i using Nat.strongRecOn with
  | _ i ih =>
    by_cases h : ∃ j, j < i ∧ listed.getD j true = false
    · obtain ⟨j, hj, hu'⟩ := h
      exact ih j hj (by omega) hu'
    · have := ready_leastW hb hi hu (fun j hj => by
        have hj' : ¬ listed.getD j true = false := fun e => h ⟨j, hj, e⟩
        have hjs : j < listed.size := by omega
        simp [hjs] at hj' ⊢
        exact hj')
      intro e
      rw [e] at this
      cases this
theorem open_ex {listed : Array Bool} {f : Nat} (h : open_ listed = f + 1) : ∃ i, i < listed.size ∧ listed.getD i true = false := by
  unfold open_ at h
  have hpos : 0 < listed.toList.countP (fun b => !b) := by omega
  rw [List.countP_pos_iff] at hpos
  obtain ⟨b, hb, hn⟩ := hpos
  obtain ⟨i, hi, rfl⟩ := List.getElem_of_mem hb
  refine ⟨i, by simpa using hi, ?_⟩
  have hi' : i < listed.size := by simpa using hi
  simpa [hi'] using hn
def noneB (ops : Array Oper) (s : Nat) : Bool := dstAt ops s == none
def insideS (ops : Array Oper) (s n : Nat) : Bool := (List.range ops.size).all fun i => i == s || match dstAt ops i with | some d => decide (d < n) | none => false
end
end Go.Proofs.YtabgcpoaepafjaaGreat
namespace Go.Proofs.YtabgcpoaepafjaaGreat
open Go.RowKit
/-- A world behind W in which nothing old has turned. -/
structure ExtBy (W : World) where
  w : World
  h : Ext W w
instance (W : World) : Inhabited (ExtBy W) := ⟨⟨W, Ext.refl W⟩⟩
/-- The walk in the order of the text, shut: no tactic lays open what is still to come. -/
structure WQ (P : Program) (ops : Array Oper) (C : World → Prop) (Q : Act → Prop) (l : List Oper) (a : Act) : Prop where
  out : wpQuiet P ops C Q l a
theorem WQ.step {P : Program} {ops : Array Oper} {C : World → Prop} {Q : Act → Prop} {a : Act} {o : Oper} {rest : List Oper}
    (h : ∀ K : Act → Prop, (∀ a, WQ P ops C Q rest a → K a) → if Region.wanted o (yielded ops a.tmps) then o.quiet P a C K else K (a.put o.dst undef)) : WQ P ops C Q (o :: rest) a :=
  ⟨wpQuiet_step fun K hK => h K fun a w => hK a w.out⟩
theorem WQ.done {P : Program} {ops : Array Oper} {C : World → Prop} {Q : Act → Prop} {a : Act} (h : Q a) : WQ P ops C Q [] a := ⟨wpQuiet_nil h⟩
theorem wp_region_quietE {P : Program} {id : Nat} {Q : Exit → Act → World → Prop} {a : Act} {w : World} {l : List Oper} (hm : P.follows .mixedOrders = true) (hB : Region.lexB .any l.toArray = true)
    (h : WQ P l.toArray (fun w' => ∃ p : ExtBy w, w' = p.w) (fun a' => ∀ w', (∃ p : ExtBy w, w' = p.w) → Q .normal a' w') l a) : (Code.region id l.toArray true).wp P Q a w :=
  wp_region_quiet (C := fun w' => ∃ p : ExtBy w, w' = p.w) hm hB ⟨⟨w.drew, (Ext.refl w).drew⟩, rfl⟩ (by simpa using h.out)
theorem extby_of {P : Program} {f : FuncId} {args : Array Value} {W : World} {p : ExtBy W} {v : Value}
    (h : Calls P f args p.w fun e w' => e = .returned v ∧ Ext p.w w') : Calls P f args p.w fun e w'' => e = .returned v ∧ ∃ q : ExtBy W, w'' = q.w :=
  h.mono fun _ w'' ⟨he, hE⟩ => ⟨he, ⟨w'', p.h.trans hE⟩, rfl⟩
theorem ExtBy.cell {W : World} {b o : Nat} {v : Value} (hb : b < W.heap.size) (h : W.cell? ⟨b, o, none⟩ = some v) (p : ExtBy W) : p.w.cell? ⟨b, o, none⟩ = some v := (p.h.facts.1 b o hb).trans h
end Go.Proofs.YtabgcpoaepafjaaGreat
namespace Go.Proofs.YtabgcpoaepafjaaGreat
open Go.RowKit
section
variable {P : Program} {ops : Array Oper} {Q : Exit → Act → World → Prop} {md : Region.Mode} {S : World → Prop}
theorem takeOn (i : Nat) {d : Tmp} {op : Op} {ty : TypeId} {pos : String} {af : Array Edge} {g : Option (Nat × Bool)} {v : Value} {fuel : Nat} {listed : Array Bool} {a : Act} {w : World} (hi : ops[i]? = some ⟨some d, op, ty, pos, af, g⟩)
    (hs : Region.noSelect ops = true) (hf : Region.free md ops listed i = true) (hr : (Region.ready md ops listed).contains i = true)
    (hQ : ∀ c a w, Q (.panic c) (a.put (some d) v) w → Q (.panic c) a w) (hw : Region.wanted (⟨some d, op, ty, pos, af, g⟩ : Oper) (yielded ops a.tmps) = true) (hy : ∀ w, S w → (execOp a.eval ⟨some d, op, ty, pos, af, g⟩).run P w = .ok (.value v) w) (hS : S w)
    (h : wpAnyH P md ops Q S fuel (listed.setIfInBounds i true) (a.put (some d) v) w) : wpAnyH P md ops Q S (fuel + 1) listed a w :=
  wpAnyH_take hi hs hf hr hQ (.inl ⟨hw, hy⟩) hS h
theorem takeOff (i : Nat) {d : Tmp} {op : Op} {ty : TypeId} {pos : String} {af : Array Edge} {g : Option (Nat × Bool)} {fuel : Nat} {listed : Array Bool} {a : Act} {w : World} (hi : ops[i]? = some ⟨some d, op, ty, pos, af, g⟩)
    (hs : Region.noSelect ops = true) (hf : Region.free md ops listed i = true) (hr : (Region.ready md ops listed).contains i = true)
    (hQ : ∀ c a w, Q (.panic c) (a.put (some d) undef) w → Q (.panic c) a w) (hw : Region.wanted (⟨some d, op, ty, pos, af, g⟩ : Oper) (yielded ops a.tmps) = false) (hS : S w)
    (h : wpAnyH P md ops Q S fuel (listed.setIfInBounds i true) (a.put (some d) undef) w) : wpAnyH P md ops Q S (fuel + 1) listed a w :=
  wpAnyH_take hi hs hf hr hQ (.inr ⟨hw, rfl⟩) hS h
theorem takeOne (i : Nat) {d : Tmp} {op : Op} {ty : TypeId} {pos : String} {af : Array Edge} {g : Option (Nat × Bool)} {fuel : Nat} {listed : Array Bool} {a : Act} {w : World} (hi : ops[i]? = some ⟨some d, op, ty, pos, af, g⟩)
    (hr : Region.ready md ops listed = [i]) (hw : Region.wanted (⟨some d, op, ty, pos, af, g⟩ : Oper) (yielded ops a.tmps) = true)
    (h : ∀ K' : Act → World → Prop, Shut (∀ a w, S w → (S w → wpAnyH P md ops Q S fuel (listed.setIfInBounds i true) a w) → K' a w) → Oper.wp P ⟨some d, op, ty, pos, af, g⟩ a w K' Q) : wpAnyH P md ops Q S (fuel + 1) listed a w :=
  wpAnyH_ready hr (by simp) (AllReadyH.cons hi (fun K hK => by rw [if_pos hw]; exact h K hK) AllReadyH.nil)
end
end Go.Proofs.YtabgcpoaepafjaaGreat
namespace Go.Proofs.YtabgcpoaepafjaaGreat
open Go.RowKit
section
variable {P : Program} {ops : Array Oper} {Q : Exit → Act → World → Prop}
/-- Operation i neither makes a block nor stores. -/
def plainR (K : Nat) (al st : Nat → Nat) (i : Nat) : Prop := ∀ k, k < K → i ≠ al k ∧ i ≠ st k
def rolesB (ops : Array Oper) (K : Nat) (al st : Nat → Nat) : Bool := (List.range K).all fun k =>
  decide (al k < ops.size) && decide (st k < ops.size) && noneB ops (st k) && waits ops (st k) (al k) && (List.range K).all fun l => al k != st l && (k == l || (al k != al l && st k != st l))
def insideM (ops : Array Oper) (K : Nat) (st : Nat → Nat) (n : Nat) : Bool := (List.range ops.size).all fun i => (List.range K).any (fun k => st k == i) || match dstAt ops i with | some d => decide (d < n) | none => false
structure RolesM (ops : Array Oper) (K : Nat) (al st : Nat → Nat) : Prop where
  alt : ∀ k, k < K → al k < ops.size
  stt : ∀ k, k < K → st k < ops.size
  none : ∀ k, k < K → dstAt ops (st k) = none
  wait : ∀ k, k < K → waits ops (st k) (al k) = true
  ne : ∀ k l, k < K → l < K → al k ≠ st l
  ali : ∀ k l, k < K → l < K → al k = al l → k = l
  sti : ∀ k l, k < K → l < K → st k = st l → k = l
theorem rolesM {K : Nat} {al st : Nat → Nat} (h : rolesB ops K al st = true) : RolesM ops K al st := by
  have key : ∀ k, k < K → al k < ops.size ∧ st k < ops.size ∧ noneB ops (st k) = true ∧ waits ops (st k) (al k) = true ∧ ∀ l, l < K → al k ≠ st l ∧ (k = l ∨ (al k ≠ al l ∧ st k ≠ st l)) := by
    intro k hk
    have h1 := List.all_eq_true.1 h k (List.mem_range.2 hk)
    simp only [Bool.and_eq_true, decide_eq_true_eq] at h1
    refine ⟨h1.1.1.1.1, h1.1.1.1.2, h1.1.1.2, h1.1.2, fun l hl => ?_⟩
    have h2 := List.all_eq_true.1 h1.2 l (List.mem_range.2 hl)
    simpa using h2
  refine ⟨fun k hk => (key k hk).1, fun k hk => (key k hk).2.1, fun k hk => by simpa [noneB] using (key k hk).2.2.1, fun k hk => (key k hk).2.2.2.1, fun k l hk hl => ((key k hk).2.2.2.2 l hl).1, fun k l hk hl e => ?_, fun k l hk hl e => ?_⟩
  · rcases ((key k hk).2.2.2.2 l hl).2 with h | h
    · exact h
    · exact absurd e h.1
  · rcases ((key k hk).2.2.2.2 l hl).2 with h | h
    · exact h
    · exact absurd e h.2
/-- What a store leaves. -/
structure Put1 (w w' : World) (b : Nat) (cs : Array Value) (T : TypeId) : Prop where
  os : w'.os = w.os
  tape : w'.tape = w.tape
  output : w'.output = w.output
  size : w'.heap.size = w.heap.size
  at_ : w'.heap[b]? = some (.cells cs T (0, 0))
  off : ∀ q, q ≠ b → w'.heap[q]? = w.heap[q]?
theorem Put1.ext {w0 w w' : World} {b : Nat} {cs : Array Value} {T : TypeId} (h : Put1 w w' b cs T) (hE : Ext w0 w) (hb : w0.heap.size ≤ b) : Ext w0 w' :=
  Below.trans hE ⟨h.os, h.tape, h.output, by rw [h.size]; exact Nat.le_refl _, fun k hk => h.off k (by omega)⟩
theorem wp_region_M {a0 : Act} {w : World} {id : Nat} (K n : Nat) (al st : Nat → Nat) (hm : P.follows .mixedOrders = true) (V : Nat → Value → Prop) (T : Nat → TypeId) (zs cs : Nat → Array Value)
    (hrole : rolesB ops K al st = true) (hap : apartB ops ops.size = true) (hb : backW ops = true) (hin : insideM ops K st n = true) (hsz : a0.tmps.size = n)
    (hop : ∀ i, i < ops.size → plainR K al st i → ∀ (a : Act) (w' : World), Ext w w' → (∀ t, writesB ops ops.size t = false → sl a t = sl a0 t) → (∀ j, plainR K al st j → waits ops i j = true → V j (slo a (dstAt ops j))) →
      wpOp P ops Q i (fun a'' w'' => ∃ v, a'' = a.put (dstAt ops i) v ∧ V i v ∧ Ext w' w'') a w')
    (hal : ∀ k, k < K → ∀ (a : Act) (w' : World), wpOp P ops Q (al k) (fun a'' w'' => a'' = a.put (dstAt ops (al k)) (.pointer (some ⟨w'.heap.size, 0, none⟩)) ∧ w'' = w'.alloc (.cells (zs k) (T k))) a w')
    (hst : ∀ k, k < K → ∀ (a : Act) (w' : World) (b : Nat), (∀ t, writesB ops ops.size t = false → sl a t = sl a0 t) → slo a (dstAt ops (al k)) = .pointer (some ⟨b, 0, none⟩) → w'.heap[b]? = some (.cells (zs k) (T k) (0, 0)) → (∀ j, plainR K al st j → waits ops (st k) j = true → V j (slo a (dstAt ops j))) →
      wpOp P ops Q (st k) (fun a'' w'' => a'' = a ∧ Put1 w' w'' b (cs k) (T k)) a w')
    (hfin : ∀ (X : Nat → Value) (B : Nat → Nat) (w' : World), Ext w w' → (∀ j, j < ops.size → plainR K al st j → V j (X j)) → (∀ k, k < K → X (al k) = .pointer (some ⟨B k, 0, none⟩) ∧ w.heap.size ≤ B k ∧ w'.heap[B k]? = some (.cells (cs k) (T k) (0, 0))) → (∀ k l, k < K → l < K → k ≠ l → B k ≠ B l) → Q .normal (fillA ops a0 X ops.size) w') :
    (Code.region id ops true).wp P Q a0 w := by
  have R := rolesM hrole
  have inside : ∀ i, i < ops.size → (∀ k, k < K → i ≠ st k) → ∃ d, dstAt ops i = some d ∧ d < n := by
    intro i hi his
    have := List.all_eq_true.1 hin i (List.mem_range.2 hi)
    cases hd : dstAt ops i with
    | none =>
      rw [hd] at this
      simp only [Bool.or_false, List.any_eq_true, List.mem_range, beq_iff_eq] at this
      obtain ⟨k, hk, e⟩ := this
      exact absurd e.symm (his k hk)
    | some d =>
      refine ⟨d, rfl, ?_⟩
      rw [hd] at this
      simp only [Bool.or_eq_true, List.any_eq_true, List.mem_range, beq_iff_eq, decide_eq_true_eq] at this
      rcases this with ⟨k, hk, e⟩ | h
      · exact absurd e.symm (his k hk)
      · exact h
  have unwritten : ∀ t, writesB ops ops.size t = false → ∀ i, i < ops.size → dstAt ops i ≠ some t := by
    intro t ht i hi e
    have : writesB ops ops.size t = true := List.any_eq_true.2 ⟨i, List.mem_range.2 hi, by simp [e]⟩
    rw [ht] at this
    cases this
  have slput : ∀ (a : Act) (i j : Nat) (v : Value), i < ops.size → j < ops.size → (∀ k, k < K → j ≠ st k) → j ≠ i → slo (a.put (dstAt ops i) v) (dstAt ops j) = slo a (dstAt ops j) := by
    intro a i j v hi hj hjs hji
    obtain ⟨dj, hdj, _⟩ := inside j hj hjs
    rw [hdj]
    exact sl_put_ne _ _ _ _ (fun e => apart_of hap hi hj (fun e => hji e.symm) dj e hdj)
  have slself : ∀ (a : Act) (i : Nat) (v : Value), i < ops.size → (∀ k, k < K → i ≠ st k) → a.tmps.size = n → slo (a.put (dstAt ops i) v) (dstAt ops i) = v := by
    intro a i v hi his hn
    obtain ⟨d, hd, hdn⟩ := inside i hi his
    rw [hd]
    exact sl_put_eq _ _ _ (by rw [hn]; exact hdn)
  have notin : ∀ (listed : Array Bool) (i : Nat), listed.getD i true = false → listed.getD i false = true → False := by
    intro listed i h1 h2
    by_cases hi : i < listed.size
    · simp [hi] at h1 h2
      rw [h1] at h2
      cases h2
    · simp [hi] at h2
  have setself : ∀ (listed : Array Bool) (i : Nat), i < listed.size → (listed.setIfInBounds i true).getD i false = true := by
    intro listed i hi
    simp [hi]
  refine wp_region_any hm ?_
  have main : ∀ (fuel : Nat) (listed : Array Bool) (a : Act) (w' : World) (B : Nat → Nat), listed.size = ops.size → open_ listed = fuel → Ext w w' → a.defers = a0.defers → a.tmps.size = n →
      (∀ t, writesB ops ops.size t = false → sl a t = sl a0 t) → (∀ j, j < ops.size → plainR K al st j → listed.getD j false = true → V j (slo a (dstAt ops j))) →
      (∀ k, k < K → listed.getD (al k) false = true → slo a (dstAt ops (al k)) = .pointer (some ⟨B k, 0, none⟩) ∧ w.heap.size ≤ B k ∧ B k < w'.heap.size ∧ w'.heap[B k]? = some (.cells (if listed.getD (st k) false then cs k else zs k) (T k) (0, 0))) →
      (∀ k, k < K → listed.getD (st k) false = true → listed.getD (al k) false = true) →
      (∀ k l, k < K → l < K → k ≠ l → listed.getD (al k) false = true → listed.getD (al l) false = true → B k ≠ B l) → wpAny P .any ops Q fuel listed a w' := by
    intro fuel
    induction fuel with
    | zero =>
      intro listed a w' B hs ho hE hd hn hbase hV hA hSA hD
      have hall' := open_none ho
      have hyes : ∀ j, j < ops.size → listed.getD j false = true := by
        intro j hj
        have hjs : j < listed.size := by omega
        have := hall' j
        simp [hjs] at this
        simp [hjs, this]
      have he : fillA ops a0 (fun j => slo a (dstAt ops j)) ops.size = a := by
        refine act_ext (by rw [fillA_defers, hd]) (by rw [fillA_size, hn, hsz]) (fun t => ?_)
        rcases hw : writesB ops ops.size t with _ | _
        · rw [sl_fillA_other _ _ _ _ (unwritten t hw), hbase t hw]
        · obtain ⟨i, hi, hit⟩ := List.any_eq_true.1 hw
          have hi := List.mem_range.1 hi
          have hit : dstAt ops i = some t := by simpa using hit
          have his : ∀ k, k < K → i ≠ st k := by
            rintro k hk rfl
            rw [R.none k hk] at hit
            cases hit
          obtain ⟨d, hd', hdn⟩ := inside i hi his
          rw [hit] at hd'
          injection hd' with hd'
          subst hd'
          rw [sl_fillA_at _ _ ops.size i hap hi t hit (by rw [hsz]; exact hdn), hit]
          rfl
      have := hfin (fun j => slo a (dstAt ops j)) B w' hE (fun j hj hp => hV j hj hp (hyes j hj)) (fun k hk => by
        have h := hA k hk (hyes _ (R.alt k hk))
        rw [hyes _ (R.stt k hk)] at h
        exact ⟨h.1, h.2.1, h.2.2.2⟩) (fun k l hk hl hkl => hD k l hk hl hkl (hyes _ (R.alt k hk)) (hyes _ (R.alt l hl)))
      rw [he] at this
      refine ⟨List.eq_nil_iff_forall_not_mem.2 (fun i hi => ?_), this⟩
      have := (mem_ready.1 hi).1
      rw [hall' i] at this
      cases this
    | succ fuel ih =>
      intro listed a w' B hs ho hE hd hn hbase hV hA hSA hD
      obtain ⟨k, hk, hku⟩ := open_ex ho
      refine ⟨fun hr => (ready_some hb hs (by omega) hku hr).elim, fun i hi => ?_⟩
      have hiu := (mem_ready.1 hi).1
      obtain ⟨_, o, ho', _⟩ := mem_ready.1 hi
      have hil : i < ops.size := (Array.getElem?_eq_some_iff.1 ho').1
      have hlt : ∀ j, listed.getD j false = true → j < ops.size := by
        intro j h1
        rcases Nat.lt_or_ge j ops.size with h | h
        · exact h
        · rw [← hs] at h
          simp [Nat.not_lt.2 h] at h1
      have deps : ∀ j, plainR K al st j → waits ops i j = true → V j (slo a (dstAt ops j)) := fun j hp hj => hV j (hlt j (ready_waits hi hj)) hp (ready_waits hi hj)
      have hopen : open_ (listed.setIfInBounds i true) = fuel := by have := open_set hiu; omega
      have hsz' : (listed.setIfInBounds i true).size = ops.size := by simpa using hs
      by_cases hia : ∃ k, k < K ∧ i = al k
      · obtain ⟨k, hk, rfl⟩ := hia
        have hnst : ∀ l, l < K → al k ≠ st l := fun l hl => R.ne k l hk hl
        obtain ⟨di, hdi, _⟩ := inside _ hil hnst
        refine wpOp_mono (fun a'' w'' => ?_) (hal k hk a w')
        rintro ⟨rfl, rfl⟩
        have hnl : listed.getD (al k) false = false := by
          rcases h : listed.getD (al k) false with _ | _
          · rfl
          · exact (notin _ _ hiu h).elim
        have hns : listed.getD (st k) false = false := by
          rcases h : listed.getD (st k) false with _ | _
          · rfl
          · have := hSA k hk h
            rw [hnl] at this
            cases this
        have hold : ∀ q, q < w'.heap.size → (w'.alloc (.cells (zs k) (T k))).heap[q]? = w'.heap[q]? := fun q hq => Below.heap_alloc _ _ _ hq
        refine ih _ _ _ (fun l => if l = k then w'.heap.size else B l) hsz' hopen (hE.alloc _) (by rw [hdi]; exact hd) (by rw [hdi]; simpa [Act.put] using hn) (fun t ht' => ?_) (fun j hj hp hjl => ?_) (fun l hl hll => ?_) (fun l hl hll => ?_) (fun l m hl hm' hlm h1 h2 => ?_)
        · rw [sl_put_ne _ _ _ _ (unwritten t ht' _ hil)]
          exact hbase t ht'
        · have hji : al k ≠ j := fun e => (hp k hk).1 e.symm
          rw [getD_set_ne false hji] at hjl
          rw [slput _ _ _ _ hil hj (fun l hl => (hp l hl).2) (fun e => hji e.symm)]
          exact hV j hj hp hjl
        · by_cases hlk : l = k
          · subst hlk
            simp only [if_true]
            rw [slself _ _ _ hil hnst hn, getD_set_ne false (hnst l hl), hns]
            exact ⟨rfl, hE.size, by simp, heap_alloc_new w' _⟩
          · have hne : al k ≠ al l := fun e => hlk (R.ali k l hk hl e).symm
            rw [getD_set_ne false hne] at hll
            have h := hA l hl hll
            simp only [hlk, if_false]
            rw [slput _ _ _ _ hil (R.alt l hl) (fun m hm' => R.ne l m hl hm') (fun e => hne e.symm), getD_set_ne false (hnst l hl), hold _ h.2.2.1]
            exact ⟨h.1, h.2.1, by simp; omega, h.2.2.2⟩
        · by_cases hlk : l = k
          · subst hlk
            exact setself _ _ (by omega)
          · rw [getD_set_ne false (hnst l hl)] at hll
            have hne : al k ≠ al l := fun e => hlk (R.ali k l hk hl e).symm
            rw [getD_set_ne false hne]
            exact hSA l hl hll
        · by_cases hlk : l = k
          · subst hlk
            have hne : al l ≠ al m := fun e => hlm (R.ali l m hl hm' e)
            rw [getD_set_ne false hne] at h2
            have h := hA m hm' h2
            simp only [if_true, if_neg (fun e : m = l => hlm e.symm)]
            omega
          · have hne : al k ≠ al l := fun e => hlk (R.ali k l hk hl e).symm
            rw [getD_set_ne false hne] at h1
            have h := hA l hl h1
            by_cases hmk : m = k
            · subst hmk
              simp only [if_true, hlk, if_false]
              omega
            · have hne2 : al k ≠ al m := fun e => hmk (R.ali k m hk hm' e).symm
              rw [getD_set_ne false hne2] at h2
              simp only [hlk, hmk, if_false]
              exact hD l m hl hm' hlm h1 h2
      · by_cases his : ∃ k, k < K ∧ i = st k
        · obtain ⟨k, hk, rfl⟩ := his
          have hka : listed.getD (al k) false = true := ready_waits hi (R.wait k hk)
          have hns : listed.getD (st k) false = false := by
            rcases h : listed.getD (st k) false with _ | _
            · rfl
            · exact (notin _ _ hiu h).elim
          have hAk := hA k hk hka
          rw [hns] at hAk
          refine wpOp_mono (fun a'' w'' => ?_) (hst k hk a w' (B k) hbase hAk.1 hAk.2.2.2 deps)
          rintro ⟨rfl, hP⟩
          refine ih _ _ _ B hsz' hopen (hP.ext hE hAk.2.1) hd hn hbase (fun j hj hp hjl => ?_) (fun l hl hll => ?_) (fun l hl hll => ?_) (fun l m hl hm' hlm h1 h2 => ?_)
          · rw [getD_set_ne false (fun e => (hp k hk).2 e.symm)] at hjl
            exact hV j hj hp hjl
          · rw [getD_set_ne false (fun e => R.ne l k hl hk e.symm)] at hll
            have h := hA l hl hll
            by_cases hlk : l = k
            · subst hlk
              rw [setself _ _ (by omega)]
              exact ⟨h.1, h.2.1, by rw [hP.size]; exact h.2.2.1, hP.at_⟩
            · have hne : st k ≠ st l := fun e => hlk (R.sti k l hk hl e).symm
              rw [getD_set_ne false hne, hP.off _ (hD l k hl hk hlk hll hka), hP.size]
              exact h
          · rw [getD_set_ne false (fun e => R.ne l k hl hk e.symm)]
            by_cases hlk : l = k
            · subst hlk
              exact hka
            · have hne : st k ≠ st l := fun e => hlk (R.sti k l hk hl e).symm
              rw [getD_set_ne false hne] at hll
              exact hSA l hl hll
          · rw [getD_set_ne false (fun e => R.ne l k hl hk e.symm)] at h1
            rw [getD_set_ne false (fun e => R.ne m k hm' hk e.symm)] at h2
            exact hD l m hl hm' hlm h1 h2
        · have hpl : plainR K al st i := fun k hk => ⟨fun e => hia ⟨k, hk, e⟩, fun e => his ⟨k, hk, e⟩⟩
          obtain ⟨di, hdi, _⟩ := inside i hil (fun k hk => (hpl k hk).2)
          refine wpOp_mono (fun a'' w'' => ?_) (hop i hil hpl a w' hE hbase deps)
          rintro ⟨v, rfl, hVi, hE'⟩
          refine ih _ _ _ B hsz' hopen (hE.trans hE') (by rw [hdi]; exact hd) (by rw [hdi]; simpa [Act.put] using hn) (fun t ht' => ?_) (fun j hj hp hjl => ?_) (fun l hl hll => ?_) (fun l hl hll => ?_) (fun l m hl hm' hlm h1 h2 => ?_)
          · rw [sl_put_ne _ _ _ _ (unwritten t ht' i hil)]
            exact hbase t ht'
          · by_cases hji : j = i
            · subst hji
              rw [slself _ _ _ hj (fun k hk => (hp k hk).2) hn]
              exact hVi
            · rw [getD_set_ne false (fun e => hji e.symm)] at hjl
              rw [slput _ _ _ _ hil hj (fun k hk => (hp k hk).2) hji]
              exact hV j hj hp hjl
          · rw [getD_set_ne false (hpl l hl).1] at hll
            have h := hA l hl hll
            rw [slput _ _ _ _ hil (R.alt l hl) (fun m hm' => R.ne l m hl hm') (fun e => (hpl l hl).1 e.symm), getD_set_ne false (hpl l hl).2]
            have h2 := h.2.2.1
            exact ⟨h.1, h.2.1, Nat.lt_of_lt_of_le h2 hE'.size, (hE'.block _ h2).trans h.2.2.2⟩
          · rw [getD_set_ne false (hpl l hl).2] at hll
            rw [getD_set_ne false (hpl l hl).1]
            exact hSA l hl hll
          · rw [getD_set_ne false (hpl l hl).1] at h1
            rw [getD_set_ne false (hpl m hm').1] at h2
            exact hD l m hl hm' hlm h1 h2
  have hno : ∀ j, (Array.replicate ops.size false).getD j false = true → False := by
    intro j h
    simp [Array.getElem?_replicate] at h
    split at h <;> simp at h
  exact main ops.size (Array.replicate ops.size false) a0 w.drew (fun _ => 0) (by simp) (by unfold open_; simp [List.countP_replicate]) (Ext.refl w).drew rfl hsz (fun _ _ => rfl)
    (fun j _ _ h => (hno j h).elim) (fun k _ h => (hno _ h).elim) (fun k _ h => (hno _ h).elim) (fun k l _ _ _ h => (hno _ h).elim)
def plainB (K : Nat) (al st : Nat → Nat) (i : Nat) : Bool := (List.range K).all fun k => i != al k && i != st k
theorem plain_of {K : Nat} {al st : Nat → Nat} {i : Nat} (h : plainB K al st i = true) : plainR K al st i := fun k hk => by
  have := List.all_eq_true.1 h k (List.mem_range.2 hk)
  simpa using this
theorem put_two {w : World} {b : Nat} {x y u v : Value} {T : TypeId} (h : w.heap[b]? = some (.cells #[x, y] T (0, 0))) : Put1 w ((w.setCell ⟨b, 0, none⟩ u).setCell ⟨b, 1, none⟩ v) b #[u, v] T := by
  have h1 := heap_setCell_same w b 0 _ T u h
  have h2 := heap_setCell_same _ b 1 _ T v h1
  refine ⟨rfl, rfl, rfl, by simp, by simpa using h2, fun q hq => ?_⟩
  rw [Below.heap_setCell _ _ _ _ (show q ≠ b from hq), Below.heap_setCell _ _ _ _ (show q ≠ b from hq)]
theorem two_cells {w : World} {b : Nat} {x y : Value} {T : TypeId} (h : w.heap[b]? = some (.cells #[x, y] T (0, 0))) : w.cell? ⟨b, 0, none⟩ = some x ∧ w.cell? ⟨b, 1, none⟩ = some y ∧ (∀ i, w.frozen? ⟨b, i, none⟩ = false) ∧ b < w.heap.size := by
  refine ⟨by simp [World.cell?, h], by simp [World.cell?, h], fun i => by simp [World.frozen?, h], ?_⟩
  rcases Nat.lt_or_ge b w.heap.size with hlt | hge
  · exact hlt
  · rw [Array.getElem?_eq_none hge] at h; cases h
end
end Go.Proofs.YtabgcpoaepafjaaGreat
namespace Go.Proofs.YtabgcpoaepafjaaGreat
open Go.RowKit
inductive RK | plain | alloc (k : Nat) | store (k : Nat)
deriving DecidableEq
section
variable {P : Program} {ops : Array Oper} {Q : Exit → Act → World → Prop}
def quietUponE (P : Program) (w : World) (v : Value) : Result Next → Prop
  | .ok (.value u) w' => w' = w ∧ u = v
  | .ok .skip w' => w' = w ∧ v = undef
  | .ok (.enter f args) w' => w' = w ∧ Calls P f args w (fun e w'' => e = .returned v ∧ Ext w w'')
  | _ => False
def quietEx (P : Program) (w0 : World) (o : Oper) (a : Act) (next : Act → Prop) : Prop := ∃ v, (∀ p : ExtBy w0, quietUponE P p.w v ((execOp a.eval o).run P p.w)) ∧ next (a.put o.dst v)
def allocF (P : Program) (o : Oper) (zs : Array Value) (T : TypeId) : Prop := ∀ (a : Act) (w' : World), (execOp a.eval o).run P w' = .ok (.value (.pointer (some ⟨w'.heap.size, 0, none⟩))) (w'.alloc (.cells zs T))
def storeF (P : Program) (o : Oper) (a : Act) (d : Option Tmp) (zs cs : Array Value) (T : TypeId) : Prop :=
  ∀ (w' : World) (b : Nat), w'.heap[b]? = some (.cells zs T (0, 0)) → ∃ w'', (execOp (a.put d (.pointer (some ⟨b, 0, none⟩))).eval o).run P w' = .ok .skip w'' ∧ Put1 w' w'' b cs T
attribute [go_sem] quietEx quietUponE
/-- The walk in the order of the text. -/
def WMr (P : Program) (w0 : World) (T : Nat → TypeId) (zs cs : Nat → Array Value) (D : Nat → Option Tmp) (Fin : Act → Prop) : List RK → List Oper → Act → Prop
  | .plain :: ks, o :: l, a => quietEx P w0 o a (WMr P w0 T zs cs D Fin ks l)
  | .alloc k :: ks, o :: l, a => allocF P o (zs k) (T k) ∧ WMr P w0 T zs cs D Fin ks l a
  | .store k :: ks, o :: l, a => storeF P o a (D k) (zs k) (cs k) (T k) ∧ WMr P w0 T zs cs D Fin ks l a
  | [], [], a => Fin a
  | _, _, _ => False
/-- Shut. -/
structure WMs (P : Program) (w0 : World) (T : Nat → TypeId) (zs cs : Nat → Array Value) (D : Nat → Option Tmp) (Fin : Act → Prop) (ks : List RK) (l : List Oper) (a : Act) : Prop where
  out : WMr P w0 T zs cs D Fin ks l a
variable {w0 : World} {T : Nat → TypeId} {zs cs : Nat → Array Value} {D : Nat → Option Tmp} {Fin : Act → Prop} {ks : List RK} {l : List Oper} {a : Act} {o : Oper}
theorem WMs.step (h : ∀ K : Act → Prop, (∀ a, WMs P w0 T zs cs D Fin ks l a → K a) → quietEx P w0 o a K) : WMs P w0 T zs cs D Fin (.plain :: ks) (o :: l) a :=
  ⟨h (WMr P w0 T zs cs D Fin ks l) fun _ h => h.out⟩
theorem WMs.made {k : Nat} (h1 : allocF P o (zs k) (T k)) (h2 : WMs P w0 T zs cs D Fin ks l a) : WMs P w0 T zs cs D Fin (.alloc k :: ks) (o :: l) a := ⟨⟨h1, h2.out⟩⟩
theorem WMs.put {k : Nat} (h1 : storeF P o a (D k) (zs k) (cs k) (T k)) (h2 : WMs P w0 T zs cs D Fin ks l a) : WMs P w0 T zs cs D Fin (.store k :: ks) (o :: l) a := ⟨⟨h1, h2.out⟩⟩
theorem WMs.done (h : Fin a) : WMs P w0 T zs cs D Fin [] [] a := ⟨h⟩
/-- The frame ahead of operation i, the plain ones behind. -/
def fstA (ops : Array Oper) (ks : List RK) (X : Nat → Value) (a : Act) : Nat → Act
  | 0 => a
  | i + 1 => match ks.getD i .plain with
    | .plain => (fstA ops ks X a i).put (dstAt ops i) (X i)
    | _ => fstA ops ks X a i
theorem fstA_congr {X Y : Nat → Value} (a : Act) : ∀ i, (∀ j, j < i → X j = Y j) → fstA ops ks X a i = fstA ops ks Y a i
  | 0, _ => rfl
  | i + 1, h => by
    simp only [fstA]
    rw [fstA_congr a i fun j hj => h j (by omega), h i (by omega)]
theorem fstA_size (X : Nat → Value) (a : Act) : ∀ i, (fstA ops ks X a i).tmps.size = a.tmps.size
  | 0 => rfl
  | i + 1 => by
    simp only [fstA]
    split
    · cases dstAt ops i <;> simp [Act.put, fstA_size X a i]
    · exact fstA_size X a i
theorem fstA_defers (X : Nat → Value) (a : Act) : ∀ i, (fstA ops ks X a i).defers = a.defers
  | 0 => rfl
  | i + 1 => by
    simp only [fstA]
    split
    · cases dstAt ops i <;> simp [Act.put, fstA_defers X a i]
    · exact fstA_defers X a i
theorem fstA_other (X : Nat → Value) (a : Act) (t : Nat) : ∀ i, (∀ j, j < i → ks.getD j .plain = .plain → dstAt ops j ≠ some t) → sl (fstA ops ks X a i) t = sl a t
  | 0, _ => rfl
  | i + 1, h => by
    have ih := fstA_other X a t i fun j hj => h j (by omega)
    simp only [fstA]
    split
    · rename_i hp
      rw [sl_put_ne _ _ _ _ (h i (by omega) hp), ih]
    · exact ih
theorem fstA_at (X : Nat → Value) (a : Act) (hap : apartB ops ops.size = true) {j : Nat} {t : Nat} (hd : dstAt ops j = some t) (hlt : t < a.tmps.size) (hk : ks.getD j .plain = .plain) : ∀ i, i ≤ ops.size → j < i → sl (fstA ops ks X a i) t = X j
  | 0, _, h => absurd h (by omega)
  | i + 1, hi, h => by
    simp only [fstA]
    by_cases e : j = i
    · subst e
      rw [hk]
      simp only []
      rw [hd, sl_put_eq _ _ _ (by rw [fstA_size]; exact hlt)]
    · have ih := fstA_at X a hap hd hlt hk i (by omega) (by omega)
      split
      · rw [sl_put_ne _ _ _ _ (fun e2 => apart_of hap (show j < ops.size by omega) (show i < ops.size by omega) e t hd e2), ih]
      · exact ih
/-- What the walk shows of operation i. -/
def FactM (P : Program) (ops : Array Oper) (w0 : World) (T : Nat → TypeId) (zs cs : Nat → Array Value) (D : Nat → Option Tmp) (ks : List RK) (a0 : Act) (X : Nat → Value) (i : Nat) : Prop :=
  ∀ o, ops[i]? = some o → match ks.getD i .plain with
    | .plain => ∀ p : ExtBy w0, quietUponE P p.w (X i) ((execOp (fstA ops ks X a0 i).eval o).run P p.w)
    | .alloc k => allocF P o (zs k) (T k)
    | .store k => storeF P o (fstA ops ks X a0 i) (D k) (zs k) (cs k) (T k)
theorem WMr.facts {a0 : Act} : ∀ (d i : Nat) (X0 : Nat → Value), i + d = ops.size → WMr P w0 T zs cs D Fin (ks.drop i) (ops.toList.drop i) (fstA ops ks X0 a0 i) →
    ∃ X : Nat → Value, (∀ j, j < i → X j = X0 j) ∧ (∀ j, i ≤ j → j < ops.size → FactM P ops w0 T zs cs D ks a0 X j) ∧ Fin (fstA ops ks X a0 ops.size)
  | 0, i, X0, hi, h => by
    refine ⟨X0, fun _ _ => rfl, fun j h1 h2 => absurd h2 (by omega), ?_⟩
    have e : i = ops.size := by omega
    subst e
    have e0 : ops.toList.drop ops.size = [] := by simp
    rw [e0] at h
    cases hk : ks.drop ops.size with
    | nil => rw [hk] at h; exact h
    | cons k t => rw [hk] at h; cases k <;> exact h.elim
  | d + 1, i, X0, hi, h => by
    have hlt : i < ops.size := by omega
    have ho : ops[i]? = some ops[i] := by simp [hlt]
    rw [List.drop_eq_getElem_cons (show i < ops.toList.length by simpa using hlt), Array.getElem_toList] at h
    cases hk : ks.drop i with
    | nil => rw [hk] at h; exact h.elim
    | cons k t =>
      have hil : i < ks.length := by
        rcases Nat.lt_or_ge i ks.length with h1 | h1
        · exact h1
        · rw [List.drop_of_length_le h1] at hk; cases hk
      rw [List.drop_eq_getElem_cons hil] at hk
      injection hk with hk1 hk2
      have hgk : ks.getD i .plain = k := by simp [hil, hk1]
      rw [List.drop_eq_getElem_cons hil, hk1] at h
      cases k with
      | plain =>
        obtain ⟨v, h1, h2⟩ := h
        let X1 : Nat → Value := fun j => if j = i then v else X0 j
        have e1 : fstA ops ks X1 a0 i = fstA ops ks X0 a0 i := fstA_congr a0 i fun j hj => by simp [X1, show j ≠ i by omega]
        have e2 : fstA ops ks X1 a0 (i + 1) = (fstA ops ks X0 a0 i).put (dstAt ops i) v := by
          simp only [fstA, hgk]
          rw [e1]
          simp [X1]
        have hdst : dstAt ops i = ops[i].dst := by simp [dstAt, ho]
        rw [← hdst, ← e2] at h2
        obtain ⟨X, g1, g2, g3⟩ := WMr.facts d (i + 1) X1 (by omega) h2
        refine ⟨X, fun j hj => by rw [g1 j (by omega)]; simp [X1, show j ≠ i by omega], fun j hj1 hj2 => ?_, g3⟩
        by_cases e : j = i
        · subst e
          intro o ho'
          rw [ho] at ho'
          injection ho' with ho'
          subst ho'
          rw [hgk]
          have e3 : fstA ops ks X a0 j = fstA ops ks X0 a0 j := fstA_congr a0 j fun q hq => by rw [g1 q (by omega)]; simp [X1, show q ≠ j by omega]
          simp only []
          rw [e3, g1 j (by omega)]
          simpa [X1] using h1
        · exact g2 j (by omega) hj2
      | alloc k =>
        have e2 : fstA ops ks X0 a0 (i + 1) = fstA ops ks X0 a0 i := by simp only [fstA, hgk]
        obtain ⟨X, g1, g2, g3⟩ := WMr.facts d (i + 1) X0 (by omega) (by rw [e2]; exact h.2)
        refine ⟨X, fun j hj => g1 j (by omega), fun j hj1 hj2 => ?_, g3⟩
        by_cases e : j = i
        · subst e
          intro o ho'
          rw [ho] at ho'
          injection ho' with ho'
          subst ho'
          rw [hgk]
          exact h.1
        · exact g2 j (by omega) hj2
      | store k =>
        have e2 : fstA ops ks X0 a0 (i + 1) = fstA ops ks X0 a0 i := by simp only [fstA, hgk]
        obtain ⟨X, g1, g2, g3⟩ := WMr.facts d (i + 1) X0 (by omega) (by rw [e2]; exact h.2)
        refine ⟨X, fun j hj => g1 j (by omega), fun j hj1 hj2 => ?_, g3⟩
        by_cases e : j = i
        · subst e
          intro o ho'
          rw [ho] at ho'
          injection ho' with ho'
          subst ho'
          rw [hgk]
          have e3 : fstA ops ks X a0 j = fstA ops ks X0 a0 j := fstA_congr a0 j fun q hq => g1 q (by omega)
          simp only []
          rw [e3]
          exact h.1
        · exact g2 j (by omega) hj2
def kindsM (ops : Array Oper) (K : Nat) (al st : Nat → Nat) (ks : List RK) : Bool :=
  ((List.range ops.size).all fun i => match ks.getD i .plain with
    | .plain => plainB K al st i
    | .alloc k => decide (k < K) && al k == i
    | .store k => decide (k < K) && st k == i) &&
  (List.range K).all fun k => ks.getD (al k) .plain == .alloc k && ks.getD (st k) .plain == .store k
def okRead (ops : Array Oper) (ks : List RK) (D : Nat → Option Tmp) (i t : Nat) : Bool :=
  !writesB ops ops.size t || ((List.range i).any fun j => dstAt ops j == some t && (waits ops i j && ks.getD j .plain == .plain)) || (match ks.getD i .plain with | .store k => D k == some t | _ => false)
def readsM (ops : Array Oper) (ks : List RK) (D : Nat → Option Tmp) : Bool := (List.range ops.size).all fun i => match ops[i]? with
  | none => false
  | some o => o.guard.isNone && ((match o.op with | .select _ _ => false | _ => true) && (match ks.getD i .plain with
    | .alloc _ => true
    | _ => o.op.operands.all fun x => match x with | .tmp t => okRead ops ks D i t | _ => true))
def putB (D : Nat → Option Tmp) (B : Nat → Nat) (a : Act) : Nat → Act
  | 0 => a
  | k + 1 => (putB D B a k).put (D k) (.pointer (some ⟨B k, 0, none⟩))
theorem putB_size (D : Nat → Option Tmp) (B : Nat → Nat) (a : Act) : ∀ k, (putB D B a k).tmps.size = a.tmps.size
  | 0 => rfl
  | k + 1 => by
    simp only [putB]
    cases D k <;> simp [Act.put, putB_size D B a k]
theorem putB_defers (D : Nat → Option Tmp) (B : Nat → Nat) (a : Act) : ∀ k, (putB D B a k).defers = a.defers
  | 0 => rfl
  | k + 1 => by
    simp only [putB]
    cases D k <;> simp [Act.put, putB_defers D B a k]
theorem putB_other (D : Nat → Option Tmp) (B : Nat → Nat) (a : Act) (t : Nat) : ∀ k, (∀ j, j < k → D j ≠ some t) → sl (putB D B a k) t = sl a t
  | 0, _ => rfl
  | k + 1, h => by
    simp only [putB]
    rw [sl_put_ne _ _ _ _ (h k (by omega)), putB_other D B a t k fun j hj => h j (by omega)]
theorem putB_at (D : Nat → Option Tmp) (B : Nat → Nat) (a : Act) (t : Nat) {j : Nat} (hd : D j = some t) (hlt : t < a.tmps.size) : ∀ k, (∀ i, i < k → D i = some t → i = j) → j < k → sl (putB D B a k) t = .pointer (some ⟨B j, 0, none⟩)
  | 0, _, h => absurd h (by omega)
  | k + 1, hu, h => by
    simp only [putB]
    by_cases e : j = k
    · subst e
      rw [hd, sl_put_eq _ _ _ (by rw [putB_size]; exact hlt)]
    · rw [sl_put_ne _ _ _ _ (fun e2 => e (hu k (by omega) e2).symm)]
      exact putB_at D B a t hd hlt k (fun i hi => hu i (by omega)) (by omega)
theorem eval_tmp (a : Act) (t : Nat) : a.eval (.tmp t) = sl a t := rfl
theorem wpOp_quietE {i : Nat} {o : Oper} {a : Act} {w : World} {v : Value} {K : Act → World → Prop} (ho : ops[i]? = some o) (hg : o.guard.isNone = true) (h : quietUponE P w v ((execOp a.eval o).run P w)) (hK : ∀ w'', Ext w w'' → K (a.put o.dst v) w'') : wpOp P ops Q i K a w := by
  have hw : Region.wanted o (yielded ops a.tmps) = true := by simp at hg; simp [Region.wanted, hg]
  unfold wpOp
  simp only [ho, hw, if_true]
  refine .inl ?_
  unfold Oper.wp
  generalize (execOp a.eval o).run P w = r at h
  cases r with
  | ok n w' =>
    cases n <;> simp only [quietUponE] at h <;> simp only [Oper.upon]
    case value u =>
      obtain ⟨e1, e2⟩ := h
      rw [e1, e2]
      exact hK _ (Ext.refl _)
    case skip =>
      obtain ⟨e1, e2⟩ := h
      rw [e1, ← e2]
      exact hK _ (Ext.refl _)
    case enter f args =>
      obtain ⟨e1, hc⟩ := h
      rw [e1]
      exact hc.mono fun e w'' ⟨he, hw''⟩ => by subst he; exact hK _ hw''
  | halt x w' => simp only [quietUponE] at h
theorem wpOp_done {i : Nat} {o : Oper} {a : Act} {w w' : World} {n : Next} {v : Value} {K : Act → World → Prop} (ho : ops[i]? = some o) (hg : o.guard.isNone = true) (h : (execOp a.eval o).run P w = .ok n w') (hn : n = .value v ∨ (n = .skip ∧ v = undef)) (hK : K (a.put o.dst v) w') : wpOp P ops Q i K a w := by
  have hw : Region.wanted o (yielded ops a.tmps) = true := by simp at hg; simp [Region.wanted, hg]
  unfold wpOp
  simp only [ho, hw, if_true]
  refine .inl ?_
  unfold Oper.wp
  rw [h]
  rcases hn with rfl | ⟨rfl, rfl⟩ <;> simp only [Oper.upon] <;> exact hK
theorem wp_region_ME {a0 : Act} {w : World} {id : Nat} (K n : Nat) (al st : Nat → Nat) (ks : List RK) (T : Nat → TypeId) (zs cs : Nat → Array Value) (D : Nat → Option Tmp) (hm : P.follows .mixedOrders = true) (h1 : rolesB ops K al st = true) (h2 : apartB ops ops.size = true) (h3 : backW ops = true)
    (h4 : insideM ops K st n = true) (hsz : a0.tmps.size = n) (h5 : kindsM ops K al st ks = true) (h6 : readsM ops ks D = true) (h7 : ((List.range K).all fun k => D k == dstAt ops (al k)) = true)
    (h : WMs P w T zs cs D (fun a => ∀ (B : Nat → Nat) (w' : World), Ext w w' → AllBelow (fun k => w.heap.size ≤ B k ∧ w'.heap[B k]? = some (.cells (cs k) (T k) (0, 0))) K → Q .normal (putB D B a K) w') ks ops.toList a0) : (Code.region id ops true).wp P Q a0 w := by
  obtain ⟨X, _, hX, hF⟩ := WMr.facts (ops := ops) ops.size 0 (fun _ => undef) (by omega) h.out
  have R := rolesM h1
  have hD : ∀ k, k < K → D k = dstAt ops (al k) := fun k hk => by simpa using List.all_eq_true.1 h7 k (List.mem_range.2 hk)
  have below : ∀ (p : Nat → Prop) (N : Nat), (∀ k, k < N → p k) → AllBelow p N := by
    intro p N
    induction N with
    | zero => intro _; trivial
    | succ k ih => intro h; exact ⟨ih fun i hi => h i (by omega), h k (by omega)⟩
  simp only [kindsM, Bool.and_eq_true] at h5
  have kal : ∀ k, k < K → ks.getD (al k) .plain = .alloc k := fun k hk => by
    have := List.all_eq_true.1 h5.2 k (List.mem_range.2 hk)
    simp only [Bool.and_eq_true, beq_iff_eq] at this
    exact this.1
  have kst : ∀ k, k < K → ks.getD (st k) .plain = .store k := fun k hk => by
    have := List.all_eq_true.1 h5.2 k (List.mem_range.2 hk)
    simp only [Bool.and_eq_true, beq_iff_eq] at this
    exact this.2
  have kpl : ∀ i, i < ops.size → plainR K al st i → ks.getD i .plain = .plain := by
    intro i hi hp
    have := List.all_eq_true.1 h5.1 i (List.mem_range.2 hi)
    cases hk : ks.getD i .plain with
    | plain => rfl
    | alloc k =>
      rw [hk] at this
      simp only [Bool.and_eq_true, decide_eq_true_eq, beq_iff_eq] at this
      exact absurd this.2.symm (hp k this.1).1
    | store k =>
      rw [hk] at this
      simp only [Bool.and_eq_true, decide_eq_true_eq, beq_iff_eq] at this
      exact absurd this.2.symm (hp k this.1).2
  have plk : ∀ i, i < ops.size → ks.getD i .plain = .plain → plainR K al st i := by
    intro i hi hp
    have := List.all_eq_true.1 h5.1 i (List.mem_range.2 hi)
    rw [hp] at this
    exact plain_of this
  have inside : ∀ i, i < ops.size → (∀ k, k < K → i ≠ st k) → ∃ d, dstAt ops i = some d ∧ d < n := by
    intro i hi his
    have := List.all_eq_true.1 h4 i (List.mem_range.2 hi)
    cases hd : dstAt ops i with
    | none =>
      rw [hd] at this
      simp only [Bool.or_false, List.any_eq_true, List.mem_range, beq_iff_eq] at this
      obtain ⟨k, hk, e⟩ := this
      exact absurd e.symm (his k hk)
    | some d =>
      refine ⟨d, rfl, ?_⟩
      rw [hd] at this
      simp only [Bool.or_eq_true, List.any_eq_true, List.mem_range, beq_iff_eq, decide_eq_true_eq] at this
      rcases this with ⟨k, hk, e⟩ | h
      · exact absurd e.symm (his k hk)
      · exact h
  have unwritten : ∀ t, writesB ops ops.size t = false → ∀ i, i < ops.size → dstAt ops i ≠ some t := by
    intro t ht i hi e
    have : writesB ops ops.size t = true := List.any_eq_true.2 ⟨i, List.mem_range.2 hi, by simp [e]⟩
    rw [ht] at this
    cases this
  have read : ∀ i, i < ops.size → ∃ o, ops[i]? = some o ∧ o.guard.isNone = true ∧ (∀ c b, o.op ≠ .select c b) ∧ ((∀ k, ks.getD i .plain ≠ .alloc k) → ∀ t, .tmp t ∈ o.op.operands → okRead ops ks D i t = true) := by
    intro i hi
    have := List.all_eq_true.1 h6 i (List.mem_range.2 hi)
    rw [Array.getElem?_eq_getElem hi] at this
    simp only [Bool.and_eq_true] at this
    refine ⟨ops[i], by simp [hi], this.1, fun c b e => ?_, fun hk t ht => ?_⟩
    · have := this.2.1
      rw [e] at this
      cases this
    · have h8 := this.2.2
      cases hki : ks.getD i .plain with
      | alloc k => exact absurd hki (hk k)
      | plain =>
        rw [hki] at h8
        exact Array.all_eq_true_iff_forall_mem.1 h8 _ ht
      | store k =>
        rw [hki] at h8
        exact Array.all_eq_true_iff_forall_mem.1 h8 _ ht
  refine wp_region_M K n al st hm (fun i v => v = X i) T zs cs h1 h2 h3 h4 hsz ?_ ?_ ?_ ?_
  · intro i hi hpl a w' hE hA hp
    obtain ⟨o, ho, hg, hns, hrd⟩ := read i hi
    have ki := kpl i hi hpl
    have f := hX i (Nat.zero_le _) hi o ho
    rw [ki] at f
    have hc : execOp a.eval o = execOp (fstA ops ks X a0 i).eval o := by
      refine execOp_congr o hns fun x hx => ?_
      cases x with
      | tmp t =>
        rw [eval_tmp, eval_tmp]
        have hr := hrd (fun k e => by rw [ki] at e; cases e) t hx
        unfold okRead at hr
        rw [ki] at hr
        simp only [Bool.or_false, Bool.or_eq_true, Bool.not_eq_true', List.any_eq_true, List.mem_range, Bool.and_eq_true, beq_iff_eq] at hr
        rcases hr with hu | ⟨j, hj, hd, hw, hk⟩
        · rw [hA t hu, fstA_other X a0 t i fun q hq _ => unwritten t hu q (by omega)]
        · have h9 := hp j (plk j (by omega) hk) hw
          rw [hd] at h9
          obtain ⟨d, hd', hdn⟩ := inside j (by omega) (fun k hk' => ((plk j (by omega) hk) k hk').2)
          rw [hd] at hd'
          injection hd' with hd'
          subst hd'
          rw [fstA_at X a0 h2 hd (by rw [hsz]; exact hdn) hk i (by omega) hj]
          exact h9
      | _ => rfl
    have f2 := f ⟨w', hE⟩
    rw [← hc] at f2
    have hdst : o.dst = dstAt ops i := by simp [dstAt, ho]
    exact wpOp_quietE ho hg f2 fun w'' hE' => ⟨X i, by rw [hdst], rfl, hE'⟩
  · intro k hk a w'
    obtain ⟨o, ho, hg, _, _⟩ := read (al k) (R.alt k hk)
    have f := hX (al k) (Nat.zero_le _) (R.alt k hk) o ho
    rw [kal k hk] at f
    have hdst : o.dst = dstAt ops (al k) := by simp [dstAt, ho]
    exact wpOp_done ho hg (f a w') (.inl rfl) ⟨by rw [hdst], rfl⟩
  · intro k hk a w' b hA hb hh hp
    obtain ⟨o, ho, hg, hns, hrd⟩ := read (st k) (R.stt k hk)
    have f := hX (st k) (Nat.zero_le _) (R.stt k hk) o ho
    rw [kst k hk] at f
    obtain ⟨w'', f1, f2⟩ := f w' b hh
    obtain ⟨dk, hdk, hdkn⟩ := inside (al k) (R.alt k hk) fun l hl => R.ne k l hk hl
    have hDk : D k = some dk := by rw [hD k hk, hdk]
    have hc : execOp a.eval o = execOp ((fstA ops ks X a0 (st k)).put (D k) (.pointer (some ⟨b, 0, none⟩))).eval o := by
      refine execOp_congr o hns fun x hx => ?_
      cases x with
      | tmp t =>
        rw [eval_tmp, eval_tmp, hDk]
        have hr := hrd (fun l e => by rw [kst k hk] at e; cases e) t hx
        unfold okRead at hr
        rw [kst k hk] at hr
        simp only [Bool.or_eq_true, Bool.not_eq_true', List.any_eq_true, List.mem_range, Bool.and_eq_true, beq_iff_eq] at hr
        rcases hr with (hu | ⟨j, hj, hd, hw, hkj⟩) | ha
        · rw [hA t hu, sl_put_ne _ _ _ _ (by rw [← hdk]; exact unwritten t hu _ (R.alt k hk)), fstA_other X a0 t _ fun q hq _ => unwritten t hu q (by have := R.stt k hk; omega)]
        · have hjs : j < ops.size := by have := R.stt k hk; omega
          have h9 := hp j (plk j hjs hkj) hw
          rw [hd] at h9
          obtain ⟨d, hd', hdn⟩ := inside j hjs (fun k hk' => ((plk j hjs hkj) k hk').2)
          rw [hd] at hd'
          injection hd' with hd'
          subst hd'
          have hja : al k ≠ j := fun e => by have := kal k hk; rw [e, hkj] at this; cases this
          rw [sl_put_ne _ _ _ _ (fun e => apart_of h2 (R.alt k hk) hjs hja t (by rw [hdk]; exact e) hd), fstA_at X a0 h2 hd (by rw [hsz]; exact hdn) hkj _ (Nat.le_of_lt (R.stt k hk)) hj]
          exact h9
        · rw [hDk] at ha
          injection ha with ha
          subst ha
          rw [sl_put_eq _ _ _ (by rw [fstA_size, hsz]; exact hdkn)]
          rw [hdk] at hb
          exact hb
      | _ => rfl
    rw [← hc] at f1
    have hdst : o.dst = none := by have := R.none k hk; simpa [dstAt, ho] using this
    exact wpOp_done ho hg f1 (.inr ⟨rfl, rfl⟩) ⟨by rw [hdst]; rfl, f2⟩
  · intro X' B w' hE hX' hB _
    have hfin := hF B w' hE (below _ _ fun k hk => (hB k hk).2)
    have e : fillA ops a0 X' ops.size = putB D B (fstA ops ks X a0 ops.size) K := by
      refine act_ext (by rw [fillA_defers, putB_defers, fstA_defers]) (by rw [fillA_size, putB_size, fstA_size]) fun t => ?_
      have hDt : ∀ k, k < K → D k = some t → writesB ops ops.size t = true := fun k hk hd => List.any_eq_true.2 ⟨al k, List.mem_range.2 (R.alt k hk), by rw [← hD k hk, hd]; simp⟩
      rcases hw : writesB ops ops.size t with _ | _
      · rw [sl_fillA_other _ _ _ _ (unwritten t hw), putB_other _ _ _ _ _ fun k hk hd => by rw [hDt k hk hd] at hw; cases hw]
        rw [fstA_other X a0 t _ fun q hq _ => unwritten t hw q hq]
      · obtain ⟨i, hi, hit⟩ := List.any_eq_true.1 hw
        have hi := List.mem_range.1 hi
        have hit : dstAt ops i = some t := by simpa using hit
        have his : ∀ k, k < K → i ≠ st k := by
          rintro k hk rfl
          rw [R.none k hk] at hit
          cases hit
        obtain ⟨d, hd', hdn⟩ := inside i hi his
        rw [hit] at hd'
        injection hd' with hd'
        subst hd'
        rw [sl_fillA_at _ _ ops.size i h2 hi t hit (by rw [hsz]; exact hdn)]
        by_cases hia : ∃ k, k < K ∧ i = al k
        · obtain ⟨k, hk, rfl⟩ := hia
          rw [(hB k hk).1, putB_at D B _ t (by rw [hD k hk, hit]) (by rw [fstA_size, hsz]; exact hdn) K (fun l hl hd => by
            rw [hD l hl] at hd
            rcases Classical.em (al l = al k) with e | e
            · exact R.ali l k hl hk e
            · exact absurd hit (apart_of h2 (R.alt l hl) hi e t hd)) hk]
        · have hpl : plainR K al st i := fun k hk => ⟨fun e => hia ⟨k, hk, e⟩, his k hk⟩
          rw [hX' i hi hpl, putB_other _ _ _ _ _ fun k hk hd => by
            rw [hD k hk] at hd
            exact apart_of h2 hi (R.alt k hk) (hpl k hk).1 t hit hd]
          rw [fstA_at X a0 h2 hit (by rw [hsz]; exact hdn) (kpl i hi hpl) _ (Nat.le_refl _) hi]
    show Q .normal (fillA ops a0 X' ops.size) w'
    rw [e]
    exact hfin
theorem wp_region_MEl {l : List Oper} {a0 : Act} {w : World} {id : Nat} (K n : Nat) (al st : Nat → Nat) (ks : List RK) (T : Nat → TypeId) (zs cs : Nat → Array Value) (D : Nat → Option Tmp) (hm : P.follows .mixedOrders = true) (h1 : rolesB l.toArray K al st = true) (h2 : apartB l.toArray l.toArray.size = true) (h3 : backW l.toArray = true)
    (h4 : insideM l.toArray K st n = true) (hsz : a0.tmps.size = n) (h5 : kindsM l.toArray K al st ks = true) (h6 : readsM l.toArray ks D = true) (h7 : ((List.range K).all fun k => D k == dstAt l.toArray (al k)) = true)
    (h : WMs P w T zs cs D (fun a => ∀ (B : Nat → Nat) (w' : World), Ext w w' → AllBelow (fun k => w.heap.size ≤ B k ∧ w'.heap[B k]? = some (.cells (cs k) (T k) (0, 0))) K → Q .normal (putB D B a K) w') ks l a0) : (Code.region id l.toArray true).wp P Q a0 w :=
  wp_region_ME K n al st ks T zs cs D hm h1 h2 h3 h4 hsz h5 h6 h7 (by simpa using h)
end
end Go.Proofs.YtabgcpoaepafjaaGreat
