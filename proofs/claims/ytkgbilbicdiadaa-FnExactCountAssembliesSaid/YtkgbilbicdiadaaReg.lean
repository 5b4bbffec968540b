/- A region whose operations may come in several orders, shown operation by operation: each keeps what is old, each value's property outlives new blocks. No condition. -/
import Derived.Test.YtkgbilbicdiadaaBase
set_option linter.unusedSimpArgs false
set_option linter.unusedVariables false
namespace Go.Proofs.Ytkgbilbicdiadaa
open Go.RowKit

section
variable {P : Program} {ops : Array Oper} {Q : Exit → Act → World → Prop}

def fillA (ops : Array Oper) (a : Act) (X : Nat → Value) : Nat → Act
  | 0 => a
  | k + 1 => match ops[k]? with
    | some o => (fillA ops a X k).put o.dst (X k)
    | none => fillA ops a X k

def dstAt (ops : Array Oper) (i : Nat) : Option Tmp := (ops[i]?).bind (·.dst)

theorem fillA_succ (a : Act) (X : Nat → Value) (k : Nat) : fillA ops a X (k + 1) = (fillA ops a X k).put (dstAt ops k) (X k) := by
  unfold dstAt
  simp only [fillA]
  cases h : ops[k]? <;> simp [Act.put]

theorem put_put (a : Act) (x : Option Tmp) (u v : Value) : (a.put x u).put x v = a.put x v := by
  cases x with
  | none => rfl
  | some d => simp [Act.put]

theorem put_none (a : Act) (v : Value) : a.put none v = a := rfl

theorem put_self (a : Act) (x : Option Tmp) : a.put x (match x with | some d => a.tmps.getD d undef | none => undef) = a := by
  cases x with
  | none => rfl
  | some d =>
    simp only [Act.put]
    have : a.tmps.setIfInBounds d (a.tmps.getD d undef) = a.tmps := by
      apply Array.ext_getElem?
      intro j
      by_cases h : d = j
      · subst h
        by_cases hl : d < a.tmps.size
        · simp [hl]
        · simp [hl]
      · simp [Array.getElem?_setIfInBounds_ne h]
    rw [this]

/-- The slots that the first m operations write are different. -/
def apartB (ops : Array Oper) (m : Nat) : Bool :=
  (List.range m).all fun i => (List.range m).all fun j => i == j || match dstAt ops i, dstAt ops j with | some d, some e => d != e | _, _ => true

theorem apart_of {m i j : Nat} (h : apartB ops m = true) (hi : i < m) (hj : j < m) (hne : i ≠ j) : ∀ d, dstAt ops i = some d → dstAt ops j ≠ some d := by
  intro d hd hd'
  have h1 := List.all_eq_true.1 h i (List.mem_range.2 hi)
  have h2 := List.all_eq_true.1 h1 j (List.mem_range.2 hj)
  simp [hd, hd', hne] at h2

theorem fillA_upd (a : Act) (m : Nat) (h : apartB ops m = true) (i : Nat) (hi : i < m) (X : Nat → Value) (v : Value) :
    (fillA ops a X m).put (dstAt ops i) v = fillA ops a (fun j => if j = i then v else X j) m := by
  have gen : ∀ k, k ≤ m → (if i < k then (fillA ops a X k).put (dstAt ops i) v else fillA ops a X k) = fillA ops a (fun j => if j = i then v else X j) k := by
    intro k
    induction k with
    | zero => intro _; simp [fillA]
    | succ k ih =>
      intro hk
      have ih := ih (by omega)
      rw [fillA_succ, fillA_succ]
      by_cases hik : i < k
      · rw [if_pos hik] at ih
        rw [if_pos (by omega), ← ih, if_neg (by omega)]
        rw [Act.put_comm _ _ _ (apart_of h (i := k) (j := i) (by omega) hi (by omega))]
      · rw [if_neg hik] at ih
        by_cases hk' : i = k
        · subst hk'
          rw [if_pos (by omega), put_put, ← ih, if_pos rfl]
        · rw [if_neg (by omega), ← ih, if_neg (fun e => hk' e.symm)]
  have := gen m (Nat.le_refl _)
  rwa [if_pos hi] at this

theorem fillA_self (a : Act) : ∀ m, fillA ops a (fun j => match dstAt ops j with | some d => a.tmps.getD d undef | none => undef) m = a := by
  intro m
  induction m with
  | zero => rfl
  | succ k ih =>
    rw [fillA_succ, ih]
    exact put_self a (dstAt ops k)

/-- Operation i must wait for operation j. -/
def waits (ops : Array Oper) (i j : Nat) : Bool := ((ops[i]?).map fun o => o.after.toList.any fun e => e.on == j && Region.binds .any e).getD false
/-- Every operation waits for earlier ones alone. -/
def backB (ops : Array Oper) : Bool := (List.range ops.size).all fun i => ((ops[i]?).map fun o => o.after.all fun e => decide (e.on < i)).getD true
/-- From m on each operation waits for all before it. -/
def tailB (ops : Array Oper) (m : Nat) : Bool := (List.range ops.size).all fun i => decide (i < m) || (List.range i).all fun j => waits ops i j

theorem ready_waits {listed : Array Bool} {i j : Nat} (h : i ∈ Region.ready .any ops listed) (hw : waits ops i j = true) : listed.getD j false = true := by
  obtain ⟨_, o, ho, hall⟩ := mem_ready.1 h
  unfold waits at hw
  rw [ho] at hw
  simp only [Option.map_some, Option.getD_some, List.any_eq_true] at hw
  obtain ⟨e, he, hp⟩ := hw
  simp only [Bool.and_eq_true, beq_iff_eq] at hp
  have := hall e (by simpa using he) hp.2
  rwa [hp.1] at this

theorem ready_least {listed : Array Bool} (hb : backB ops = true) {i : Nat} (hi : i < ops.size) (hu : listed.getD i true = false) (hl : ∀ j, j < i → listed.getD j false = true) : i ∈ Region.ready .any ops listed := by
  refine mem_ready.2 ⟨hu, ops[i], by simp [hi], fun e he _ => hl _ ?_⟩
  have h1 := List.all_eq_true.1 hb i (List.mem_range.2 hi)
  rw [Array.getElem?_eq_getElem hi] at h1
  simp only [Option.map_some, Option.getD_some, Array.all_eq_true] at h1
  obtain ⟨k, hk, rfl⟩ := Array.getElem_of_mem he
  simpa using h1 k hk

def open_ (listed : Array Bool) : Nat := listed.toList.countP fun b => !b

theorem open_set {listed : Array Bool} {i : Nat} (hi : listed.getD i true = false) : open_ (listed.setIfInBounds i true) + 1 = open_ listed := by
  unfold open_
  have hlt : i < listed.size := by
    rcases Nat.lt_or_ge i listed.size with h | h
    · exact h
    · simp [Array.getElem?_eq_none h] at hi
  have hv : listed[i] = false := by simpa [hlt] using hi
  have hlt' : i < listed.toList.length := by simpa using hlt
  rw [Array.toList_setIfInBounds, List.countP_set hlt']
  have hpos : 0 < listed.toList.countP (fun b => !b) := by
    rw [List.countP_pos_iff]
    exact ⟨false, by rw [← hv]; simp, rfl⟩
  have e : listed.toList[i] = false := by rw [Array.getElem_toList]; exact hv
  rw [e]
  simp only [Bool.not_false, Bool.not_true, if_true, Bool.false_eq_true, if_false]
  omega

theorem open_none {listed : Array Bool} (h : open_ listed = 0) (i : Nat) : listed.getD i true = true := by
  unfold open_ at h
  rw [List.countP_eq_zero] at h
  by_cases hlt : i < listed.size
  · have := h listed[i] (by simp)
    simp at this
    simp [hlt, this]
  · simp [hlt]

/-- The tail: from m on the order is forced. -/
theorem wpAny_tail (hb : backB ops = true) (m0 : Nat) (ht : tailB ops m0 = true) : ∀ (fuel m : Nat) (listed : Array Bool) (a : Act) (w : World), m0 ≤ m → listed.size = ops.size → open_ listed = fuel →
    (∀ j, listed.getD j false = true ↔ j < m ∧ j < ops.size) → wpOps P ops Q (List.range' m (ops.size - m)) a w → wpAny P .any ops Q fuel listed a w := by
  intro fuel
  induction fuel with
  | zero =>
    intro m listed a w hm hs ho hl h
    have hall := open_none ho
    have hr : Region.ready .any ops listed = [] := by
      apply List.eq_nil_iff_forall_not_mem.2
      intro i hi
      have := (mem_ready.1 hi).1
      rw [hall i] at this
      cases this
    have hge : ops.size ≤ m := by
      rcases Nat.lt_or_ge m ops.size with hlt | hge
      · have h1 := hall m
        have h2 : listed.getD m false = true := by
          have hms : m < listed.size := by omega
          simpa [hms] using h1
        have := ((hl m).1 h2).1
        omega
      · exact hge
    refine ⟨hr, ?_⟩
    have : ops.size - m = 0 := by omega
    rw [this] at h
    simpa [wpOps] using h
  | succ fuel ih =>
    intro m listed a w hm hs ho hl h
    have hlt : m < ops.size := by
      rcases Nat.lt_or_ge m ops.size with hlt | hge
      · exact hlt
      · have : open_ listed = 0 := by
          unfold open_
          rw [List.countP_eq_zero]
          intro b hbm
          obtain ⟨j, hj, rfl⟩ := List.getElem_of_mem hbm
          have hj' : j < listed.size := by simpa using hj
          have := (hl j).2 ⟨by omega, by omega⟩
          simp [hj'] at this
          simp [this]
        omega
    have hmu : listed.getD m true = false := by
      have hms : m < listed.size := by omega
      have : ¬ listed.getD m false = true := fun h' => by have := ((hl m).1 h').1; omega
      simp [hms] at this
      simp [hms, this]
    have hrm : m ∈ Region.ready .any ops listed := ready_least hb hlt hmu (fun j hj => (hl j).2 ⟨hj, by omega⟩)
    refine ⟨fun hr => (by rw [hr] at hrm; cases hrm), fun i hi => ?_⟩
    have him : i = m := by
      obtain ⟨hiu, o, ho', hall⟩ := mem_ready.1 hi
      have hil : i < ops.size := (Array.getElem?_eq_some_iff.1 ho').1
      rcases Nat.lt_trichotomy i m with h1 | h1 | h1
      · have := (hl i).2 ⟨h1, hil⟩
        have his : i < listed.size := by omega
        simp [his] at this hiu
        rw [this] at hiu
        cases hiu
      · exact h1
      · have hti := List.all_eq_true.1 ht i (List.mem_range.2 hil)
        have hni : ¬ i < m0 := by omega
        simp only [hni, decide_false, Bool.false_or] at hti
        have := List.all_eq_true.1 hti m (List.mem_range.2 h1)
        have h2 := ready_waits hi this
        have := ((hl m).1 h2).1
        omega
    subst him
    have hsz : ops.size - i = (ops.size - (i + 1)) + 1 := by omega
    rw [hsz, List.range'_succ, wpOps_cons] at h
    refine wpOp_mono (fun a' w' h' => ?_) h
    refine ih (i + 1) _ a' w' (by omega) (by simpa using hs) (by have := open_set hmu; omega) (fun j => ?_) h'
    by_cases hij : i = j
    · subst hij
      have his : i < listed.size := by omega
      simp [his]
      omega
    · rw [getD_set_ne false hij, hl j]
      omega

theorem wp_region_V {a : Act} {w : World} {id : Nat} (hm : P.follows .mixedOrders = true) (m : Nat) (V : Nat → Value → World → Prop)
    (hmn : decide (m ≤ ops.size) = true) (hap : apartB ops m = true) (hb : backB ops = true) (ht : tailB ops m = true)
    (hstab : ∀ i v w w', V i v w → Ext w w' → V i v w')
    (hop : ∀ i, i < m → ∀ (X : Nat → Value) (w' : World), Ext w w' → (∀ j, waits ops i j = true → V j (X j) w') →
      wpOp P ops Q i (fun a'' w'' => ∃ v, a'' = (fillA ops a X m).put (dstAt ops i) v ∧ V i v w'' ∧ Ext w' w'') (fillA ops a X m) w')
    (hfin : ∀ (X : Nat → Value) (w' : World), Ext w w' → (∀ j, j < m → V j (X j) w') → wpOps P ops Q (List.range' m (ops.size - m)) (fillA ops a X m) w') :
    (Code.region id ops true).wp P Q a w := by
  have hmn' : m ≤ ops.size := of_decide_eq_true hmn
  refine wp_region_any hm ?_
  have main : ∀ (fuel : Nat) (listed : Array Bool) (X : Nat → Value) (w' : World), listed.size = ops.size → open_ listed = fuel → Ext w w' →
      (∀ j, m ≤ j → listed.getD j false = false) → (∀ j, j < m → listed.getD j false = true → V j (X j) w') → wpAny P .any ops Q fuel listed (fillA ops a X m) w' := by
    intro fuel
    induction fuel with
    | zero =>
      intro listed X w' hs ho hE htl hV
      have hall := open_none ho
      have hge : ops.size ≤ m := by
        rcases Nat.lt_or_ge m ops.size with hlt | hge
        · have h1 := hall m
          have h2 := htl m (Nat.le_refl _)
          have hms : m < listed.size := by omega
          simp [hms] at h1 h2
          rw [h1] at h2
          cases h2
        · exact hge
      refine wpAny_tail hb m ht 0 m listed _ w' (Nat.le_refl _) hs ho (fun j => ?_) (hfin X w' hE (fun j hj => hV j hj ?_))
      · by_cases hj : j < listed.size
        · have := hall j
          simp [hj] at this
          simp [hj, this]
          omega
        · simp [hj]
          omega
      · have hjs : j < listed.size := by omega
        have := hall j
        simp [hjs] at this
        simp [hjs, this]
    | succ fuel ih =>
      intro listed X w' hs ho hE htl hV
      by_cases hheads : ∀ j, j < m → listed.getD j false = true
      · refine wpAny_tail hb m ht (fuel + 1) m listed _ w' (Nat.le_refl _) hs ho (fun j => ?_) (hfin X w' hE (fun j hj => hV j hj (hheads j hj)))
        constructor
        · intro h
          have hjm : j < m := by
            rcases Nat.lt_or_ge j m with h1 | h1
            · exact h1
            · rw [htl j h1] at h; cases h
          exact ⟨hjm, by omega⟩
        · intro h
          exact hheads j h.1
      · have step : ∀ i, i ∈ Region.ready .any ops listed → i < m → wpOp P ops Q i (wpAny P .any ops Q fuel (listed.setIfInBounds i true)) (fillA ops a X m) w' := by
          intro i hi him
          have hiu := (mem_ready.1 hi).1
          refine wpOp_mono (fun a'' w'' => ?_) (hop i him X w' hE (fun j hj => ?_))
          · rintro ⟨v, rfl, hVi, hE'⟩
            rw [fillA_upd a m hap i him X v]
            refine ih _ _ w'' (by simpa using hs) (by have := open_set hiu; omega) (hE.trans hE') (fun j hj => ?_) (fun j hj hjl => ?_)
            · rw [getD_set_ne false (by omega)]
              exact htl j hj
            · by_cases hji : j = i
              · subst hji
                simpa using hVi
              · rw [if_neg hji]
                rw [getD_set_ne false (fun e => hji e.symm)] at hjl
                exact hstab _ _ _ _ (hV j hj hjl) hE'
          · have h1 := ready_waits hi hj
            have hjm : j < m := by
              rcases Nat.lt_or_ge j m with h2 | h2
              · exact h2
              · rw [htl j h2] at h1; cases h1
            exact hV j hjm h1
        refine ⟨fun hr => ?_, fun i hi => ?_⟩
        · exfalso
          apply hheads
          intro j
          induction j using Nat.strongRecOn with
          | _ j ihj =>
            intro hj
            rcases hlj : listed.getD j false with _ | _
            · exfalso
              have hjs : j < listed.size := by omega
              have hju : listed.getD j true = false := by simpa [hjs] using hlj
              have := ready_least hb (by omega) hju (fun i hi => ihj i hi (by omega))
              rw [hr] at this
              cases this
            · rfl
        · rcases Nat.lt_or_ge i m with him | him
          · exact step i hi him
          · exfalso
            apply hheads
            intro j hj
            obtain ⟨_, o, ho', _⟩ := mem_ready.1 hi
            have hil : i < ops.size := (Array.getElem?_eq_some_iff.1 ho').1
            have hti := List.all_eq_true.1 ht i (List.mem_range.2 hil)
            have hni : ¬ i < m := by omega
            simp only [hni, decide_false, Bool.false_or] at hti
            exact ready_waits hi (List.all_eq_true.1 hti j (List.mem_range.2 (by omega)))
  have h0 := main ops.size (Array.replicate ops.size false) (fun j => match dstAt ops j with | some d => a.tmps.getD d undef | none => undef) w.drew (by simp)
    (by unfold open_; simp [List.countP_replicate]) (Ext.refl w).drew (fun j _ => by simp [Array.getElem?_replicate]; split <;> simp) (fun j _ h => by simp [Array.getElem?_replicate] at h; split at h <;> simp at h)
  rw [fillA_self] at h0
  exact h0
theorem upon_then {K : Act → World → Prop} {o : Oper} {a : Act} {next : Act → World → Prop} {r : Result Next} (h : o.upon P a next (Exit.then K Q) r) : o.upon P a next Q r := by
  cases r with
  | ok n w' =>
    cases n <;> simp only [Oper.upon] at h ⊢ <;> first | exact h | exact Calls.mono h (fun e w'' he => by cases e <;> exact he)
  | halt x w' => cases x <;> simp only [Oper.upon] at h ⊢ <;> exact h

theorem wpOp_of_list {i : Nat} {o : Oper} {a : Act} {w : World} {K : Act → World → Prop} (hi : ops[i]? = some o) (hg : o.guard = none) (h : wpList P ops (Exit.then K Q) [o] a w) : wpOp P ops Q i K a w := by
  unfold wpList at h
  unfold wpOp
  have hw : Region.wanted o (yielded ops a.tmps) = true := by simp [Region.wanted, hg]
  rw [if_pos hw] at h
  simp only [hi, hw, if_true]
  rcases h with h | ⟨h1, h2⟩
  · refine .inl (upon_then (K := K) ?_)
    exact h
  · exact .inr ⟨h1, h2⟩

theorem wpOp_off {i : Nat} {o : Oper} {a : Act} {w : World} {K : Act → World → Prop} (hi : ops[i]? = some o) (hw : Region.wanted o (yielded ops a.tmps) = false) (h : K (a.put o.dst undef) w) : wpOp P ops Q i K a w := by
  unfold wpOp
  simp only [hi, hw, Bool.false_eq_true, if_false]
  exact h
theorem wpOp_on {i : Nat} {o : Oper} {a : Act} {w : World} {K : Act → World → Prop} (hi : ops[i]? = some o) (hw : Region.wanted o (yielded ops a.tmps) = true) (h : wpList P ops (Exit.then K Q) [{ o with guard := none }] a w) : wpOp P ops Q i K a w := by
  unfold wpList at h
  unfold wpOp
  rw [if_pos (by simp [Region.wanted])] at h
  simp only [hi, hw, if_true]
  rcases h with h | ⟨h1, h2⟩
  · exact .inl (upon_then (K := K) h)
  · exact .inr ⟨h1, h2⟩
/-- What operation i leaves: its value in its slot, nothing else in the frame; nothing old has turned. -/
def RegPost (ops : Array Oper) (V : Nat → Value → World → Prop) (a : Act) (w : World) (i : Nat) (a'' : Act) (w'' : World) : Prop :=
  ∃ v, a'' = a.put (dstAt ops i) v ∧ V i v w'' ∧ Ext w w''

theorem regpost {V : Nat → Value → World → Prop} {a a'' : Act} {w w'' : World} {i : Nat} {d : Tmp} {v : Value} (hd : dstAt ops i = some d) (hV : V i v w'') (ha : a'' = { a with tmps := a.tmps.setIfInBounds d v }) (hE : Ext w w'') : RegPost ops V a w i a'' w'' :=
  ⟨v, by rw [hd]; exact ha, hV, hE⟩
theorem wpOp_skip {V : Nat → Value → World → Prop} {a : Act} {w : World} {i : Nat} {o : Oper} (hi : ops[i]? = some o) (hw : Region.wanted o (yielded ops a.tmps) = false) (hV : V i undef w) : wpOp P ops Q i (RegPost ops V a w i) a w :=
  wpOp_off hi hw ⟨undef, by simp only [dstAt, hi, Option.bind_some], hV, Ext.refl _⟩
def AllBelow (p : Nat → Prop) : Nat → Prop
  | 0 => True
  | k + 1 => AllBelow p k ∧ p k
theorem allBelow {p : Nat → Prop} : ∀ {m : Nat}, AllBelow p m → ∀ i, i < m → p i
  | 0, _, i, h => absurd h (Nat.not_lt_zero i)
  | m + 1, h, i, hi => by
    rcases Nat.lt_or_ge i m with h1 | h1
    · exact allBelow h.1 i h1
    · have : i = m := by omega
      subst this
      exact h.2

def VL (L : List (Value → World → Prop)) (i : Nat) (v : Value) (w : World) : Prop := (L.getD i (fun _ _ => True)) v w
def Stab (p : Value → World → Prop) : Prop := ∀ v w w', p v w → Ext w w' → p v w'
def StabL : List (Value → World → Prop) → Prop
  | [] => True
  | p :: ps => Stab p ∧ StabL ps
theorem stab_eq (c : Value) : Stab (fun v _ => v = c) := fun _ _ _ h _ => h
theorem stab_at : ∀ (L : List (Value → World → Prop)), StabL L → ∀ i, Stab (VL L i)
  | [], _, i => fun _ _ _ _ _ => by simp [VL]
  | p :: ps, h, 0 => fun v w w' hv hE => by simpa [VL] using h.1 v w w' (by simpa [VL] using hv) hE
  | p :: ps, h, i + 1 => fun v w w' hv hE => by
    have := stab_at ps h.2 i v w w' (by simpa [VL] using hv) hE
    simpa [VL] using this

theorem block_cell {w : World} {g : Nat} {cs : Array Value} {T : TypeId} (h : w.heap[g]? = some (.cells cs T (0, 0))) : (∀ i, w.cell? ⟨g, i, none⟩ = cs[i]?) ∧ ∀ i, w.frozen? ⟨g, i, none⟩ = false := by
  refine ⟨fun i => ?_, fun i => ?_⟩
  · simp only [World.cell?]
    rw [h]
    rfl
  · simp only [World.frozen?]
    rw [h]
    simp
/-- Three stores into a block of the call's own. -/
theorem set3 {w : World} {g : Nat} {a b c : Value} {T : TypeId} {w0 : World} (h : w.heap[g]? = some (.cells #[a, b, c] T (0, 0))) (hE : Ext w0 w) (hg : w0.heap.size ≤ g) (x y z : Value) :
    ∃ w1, w1 = (((w.setCell ⟨g, 0, none⟩ x).setCell ⟨g, 1, none⟩ y).setCell ⟨g, 2, none⟩ z) ∧ Ext w0 w1 ∧ w1.heap[g]? = some (.cells #[x, y, z] T (0, 0)) ∧ w1.heap.size = w.heap.size := by
  refine ⟨_, rfl, ((hE.set hg x).set hg y).set hg z, ?_, by simp⟩
  have h1 := heap_setCell_same w g 0 _ T x h
  have h2 := heap_setCell_same _ g 1 _ T y h1
  have h3 := heap_setCell_same _ g 2 _ T z h2
  rw [h3]
  rfl
theorem set2 {w : World} {g : Nat} {a b : Value} {T : TypeId} {w0 : World} (h : w.heap[g]? = some (.cells #[a, b] T (0, 0))) (hE : Ext w0 w) (hg : w0.heap.size ≤ g) (x y : Value) :
    ∃ w1, w1 = ((w.setCell ⟨g, 0, none⟩ x).setCell ⟨g, 1, none⟩ y) ∧ Ext w0 w1 ∧ w1.heap[g]? = some (.cells #[x, y] T (0, 0)) ∧ w1.heap.size = w.heap.size := by
  refine ⟨_, rfl, (hE.set hg x).set hg y, ?_, by simp⟩
  have h1 := heap_setCell_same w g 0 _ T x h
  have h2 := heap_setCell_same _ g 1 _ T y h1
  rw [h2]
  rfl
theorem wpOps_tail {m : Nat} {a : Act} {w : World} (h : wpList P ops Q (ops.toList.drop m) a w) : wpOps P ops Q (List.range' m (ops.size - m)) a w := by
  have e := wpOps_eq_wpList (P := P) (ops := ops) (Q := Q) (ops.toList.drop m) m (fun j => by simp)
  have hl : (ops.toList.drop m).length = ops.size - m := by simp
  rw [hl] at e
  rw [e]
  exact h
theorem stab_new (T : TypeId) (cs : Array Value) (B : Nat) : Stab (fun v w => ∃ g, v = .pointer (some ⟨g, 0, none⟩) ∧ B ≤ g ∧ g < w.heap.size ∧ w.heap[g]? = some (.cells cs T (0, 0))) := by
  rintro v w w' ⟨g, h1, h2, h3, h4⟩ hE
  exact ⟨g, h1, h2, Nat.lt_of_lt_of_le h3 hE.size, (hE.block g h3).trans h4⟩
theorem new_block (w : World) (T : TypeId) (cs : Array Value) (B : Nat) (hB : B ≤ w.heap.size) : ∃ g, Value.pointer (some ⟨w.heap.size, 0, none⟩) = .pointer (some ⟨g, 0, none⟩) ∧ B ≤ g ∧ g < (w.alloc (.cells cs T)).heap.size ∧ (w.alloc (.cells cs T)).heap[g]? = some (.cells cs T (0, 0)) :=
  ⟨w.heap.size, rfl, hB, by simp, heap_alloc_new w _⟩
theorem wp_region_VL {a : Act} {w : World} {id : Nat} (L : List (Value → World → Prop)) (hm : P.follows .mixedOrders = true)
    (hmn : decide (L.length ≤ ops.size) = true) (hap : apartB ops L.length = true) (hb : backB ops = true) (ht : tailB ops L.length = true)
    (hstab : StabL L)
    (hop : ∀ (X : Nat → Value) (w' : World), Ext w w' → AllBelow (fun i => (∀ j, waits ops i j = true → VL L j (X j) w') → wpOp P ops Q i (RegPost ops (VL L) (fillA ops a X L.length) w' i) (fillA ops a X L.length) w') L.length)
    (hfin : ∀ (X : Nat → Value) (w' : World), Ext w w' → AllBelow (fun j => VL L j (X j) w') L.length → wpList P ops Q (ops.toList.drop L.length) (fillA ops a X L.length) w') :
    (Code.region id ops true).wp P Q a w :=
  wp_region_V hm L.length (VL L) hmn hap hb ht (fun i v w w' h hE => stab_at L hstab i v w w' h hE)
    (fun i hi X w' hE hp => allBelow (hop X w' hE) i hi hp) (fun X w' hE hp => wpOps_tail <| hfin X w' hE (by
      have : ∀ k, k ≤ L.length → AllBelow (fun j => VL L j (X j) w') k := by
        intro k
        induction k with
        | zero => intro _; trivial
        | succ k ih => intro hk; exact ⟨ih (by omega), hp k (by omega)⟩
      exact this _ (Nat.le_refl _)))
/-- The same, the number of the head operations given apart. -/
theorem wp_region_VM {a : Act} {w : World} {id : Nat} (m : Nat) (hm : P.follows .mixedOrders = true)
    (hmn : decide (m ≤ ops.size) = true) (hap : apartB ops m = true) (hb : backB ops = true) (ht : tailB ops m = true)
    (L : List (Value → World → Prop)) (hL : L.length = m) (hstab : StabL L)
    (hop : ∀ (X : Nat → Value) (w' : World), Ext w w' → AllBelow (fun i => (∀ j, waits ops i j = true → VL L j (X j) w') → wpOp P ops Q i (RegPost ops (VL L) (fillA ops a X m) w' i) (fillA ops a X m) w') m)
    (hfin : ∀ (X : Nat → Value) (w' : World), Ext w w' → AllBelow (fun j => VL L j (X j) w') m → wpList P ops Q (ops.toList.drop m) (fillA ops a X m) w') :
    (Code.region id ops true).wp P Q a w := by
  subst hL
  exact wp_region_VL L hm hmn hap hb ht hstab hop hfin
end
attribute [go_sem] fillA dstAt
end Go.Proofs.Ytkgbilbicdiadaa
