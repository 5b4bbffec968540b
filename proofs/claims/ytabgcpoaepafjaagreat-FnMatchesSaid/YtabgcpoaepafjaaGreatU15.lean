/- Words and walks for the law FnMatches, a part of them. No condition but that the arguments lie in memory. -/
import Derived.Test.YtabgcpoaepafjaaGreatU5
import Derived.Test.YtabgcpoaepafjaaGreatU14
set_option linter.unusedVariables false
set_option linter.unusedSimpArgs false
namespace Go.Proofs.YtabgcpoaepafjaaGreat
open Go.RowKit
section
variable {P : Program} {ops : Array Oper} {Q : Exit → Act → World → Prop}
/-- What operation i leaves, in worlds under K. -/
def OpG (K : World → World → Prop) (ops : Array Oper) (V : Nat → Value → World → Prop) (a : Act) (w : World) (i : Nat) (a'' : Act) (w'' : World) : Prop :=
  ∃ v, a'' = a.put (dstAt ops i) v ∧ V i v w'' ∧ K w w''
def StabK (K : World → World → Prop) (p : Value → World → Prop) : Prop := ∀ v w w', p v w → K w w' → p v w'
def StabKL (K : World → World → Prop) : List (Value → World → Prop) → Prop
  | [] => True
  | p :: ps => StabK K p ∧ StabKL K ps
theorem stabk_eq (K : World → World → Prop) (c : Value) : StabK K (fun v _ => v = c) := fun _ _ _ h _ => h
theorem stabk_any (K : World → World → Prop) (p : Value → Prop) : StabK K (fun v _ => p v) := fun _ _ _ h _ => h
theorem stabk_true (K : World → World → Prop) : StabK K (fun _ _ => True) := fun _ _ _ _ _ => trivial
theorem stabk_at {K : World → World → Prop} : ∀ (L : List (Value → World → Prop)), StabKL K L → ∀ i, StabK K (VL L i)
  | [], _, i => fun _ _ _ _ _ => by simp [VL]
  | p :: ps, h, 0 => fun v w w' hv hE => by simpa [VL] using h.1 v w w' (by simpa [VL] using hv) hE
  | p :: ps, h, i + 1 => fun v w w' hv hE => by
    have := stabk_at ps h.2 i v w w' (by simpa [VL] using hv) hE
    simpa [VL] using this
theorem wp_region_GR {K : World → World → Prop} {a0 : Act} {w : World} {id : Nat} (m n : Nat) (hm : P.follows .mixedOrders = true) (hK0 : K w w.drew) (hKt : ∀ {a b c}, K a b → K b c → K a c) (V : Nat → Value → World → Prop)
    (hmn : decide (m ≤ ops.size) = true) (hap : apartB ops m = true) (hb : backB ops = true) (ht : tailB ops m = true) (hin : insideB ops m n = true) (hsz : a0.tmps.size = n)
    (hstab : ∀ i v w w', V i v w → K w w' → V i v w')
    (hop : ∀ i, i < m → ∀ (a : Act) (w' : World), K w w' → (∀ t, writesB ops m t = false → sl a t = sl a0 t) → (∀ j, waits ops i j = true → V j (slo a (dstAt ops j)) w') →
      wpOp P ops Q i (OpG K ops V a w' i) a w')
    (hfin : ∀ (X : Nat → Value) (w' : World), K w w' → (∀ j, j < m → V j (X j) w') → wpList P ops Q (ops.toList.drop m) (fillA ops a0 X m) w') :
    (Code.region id ops true).wp P Q a0 w := by
  have hmn' : m ≤ ops.size := of_decide_eq_true hmn
  have inside : ∀ i, i < m → ∃ d, dstAt ops i = some d ∧ d < n := by
    intro i hi
    have := List.all_eq_true.1 hin i (List.mem_range.2 hi)
    cases hd : dstAt ops i with
    | none => simp [hd] at this
    | some d => exact ⟨d, rfl, by simpa [hd] using this⟩
  have unwritten : ∀ t, writesB ops m t = false → ∀ i, i < m → dstAt ops i ≠ some t := by
    intro t ht i hi e
    have : writesB ops m t = true := List.any_eq_true.2 ⟨i, List.mem_range.2 hi, by simp [e]⟩
    rw [ht] at this
    cases this
  refine wp_region_any hm ?_
  have main : ∀ (fuel : Nat) (listed : Array Bool) (a : Act) (w' : World), listed.size = ops.size → open_ listed = fuel → K w w' → a.defers = a0.defers → a.tmps.size = n →
      (∀ t, writesB ops m t = false → sl a t = sl a0 t) →
      (∀ j, m ≤ j → listed.getD j false = false) → (∀ j, j < m → listed.getD j false = true → V j (slo a (dstAt ops j)) w') → wpAny P .any ops Q fuel listed a w' := by
    intro fuel
    have fin : ∀ (a : Act) (w' : World), K w w' → a.defers = a0.defers → a.tmps.size = n → (∀ t, writesB ops m t = false → sl a t = sl a0 t) →
        (∀ j, j < m → V j (slo a (dstAt ops j)) w') → wpOps P ops Q (List.range' m (ops.size - m)) a w' := by
      intro a w' hE hd hs hbase hV
      have he : fillA ops a0 (fun j => slo a (dstAt ops j)) m = a := by
        refine act_ext (by rw [fillA_defers, hd]) (by rw [fillA_size, hs, hsz]) (fun t => ?_)
        rcases hw : writesB ops m t with _ | _
        · rw [sl_fillA_other _ _ _ _ (unwritten t hw), hbase t hw]
        · obtain ⟨i, hi, hit⟩ := List.any_eq_true.1 hw
          have hi := List.mem_range.1 hi
          have hit : dstAt ops i = some t := by simpa using hit
          obtain ⟨d, hd', hdn⟩ := inside i hi
          rw [hit] at hd'
          injection hd' with hd'
          subst hd'
          rw [sl_fillA_at _ _ m i hap hi t hit (by rw [hsz]; exact hdn), hit]
          rfl
      have := hfin (fun j => slo a (dstAt ops j)) w' hE hV
      rw [he] at this
      exact wpOps_tail this
    induction fuel with
    | zero =>
      intro listed a w' hs ho hE hd hn hbase htl hV
      have hall := open_none ho
      have hge : ops.size ≤ m := by
        rcases Nat.lt_or_ge m ops.size with hlt | hge
        · have h1 := hall m
          have h2 := htl m (Nat.le_refl _)
          have hms : m < listed.size := by omega
          simp [hms] at h1 h2
          rw [h1] at h2
          cases h2
        · exact hge
      refine wpAny_tail hb m ht 0 m listed _ w' (Nat.le_refl _) hs ho (fun j => ?_) (fin a w' hE hd hn hbase (fun j hj => hV j hj ?_))
      · by_cases hj : j < listed.size
        · have := hall j
          simp [hj] at this
          simp [hj, this]
          omega
        · simp [hj]
          omega
      · have hjs : j < listed.size := by omega
        have := hall j
        simp [hjs] at this
        simp [hjs, this]
    | succ fuel ih =>
      intro listed a w' hs ho hE hd hn hbase htl hV
      by_cases hheads : ∀ j, j < m → listed.getD j false = true
      · refine wpAny_tail hb m ht (fuel + 1) m listed _ w' (Nat.le_refl _) hs ho (fun j => ?_) (fin a w' hE hd hn hbase (fun j hj => hV j hj (hheads j hj)))
        constructor
        · intro h
          have hjm : j < m := by
            rcases Nat.lt_or_ge j m with h1 | h1
            · exact h1
            · rw [htl j h1] at h; cases h
          exact ⟨hjm, by omega⟩
        · intro h
          exact hheads j h.1
      · have step : ∀ i, i ∈ Region.ready .any ops listed → i < m → wpOp P ops Q i (wpAny P .any ops Q fuel (listed.setIfInBounds i true)) a w' := by
          intro i hi him
          have hiu := (mem_ready.1 hi).1
          obtain ⟨di, hdi, hdin⟩ := inside i him
          refine wpOp_mono (fun a'' w'' => ?_) (hop i him a w' hE hbase (fun j hj => ?_))
          · rintro ⟨v, rfl, hVi, hE'⟩
            refine ih _ _ w'' (by simpa using hs) (by have := open_set hiu; omega) (hKt hE hE') (by rw [hdi]; exact hd) (by rw [hdi]; simpa [Act.put] using hn) (fun t ht' => ?_) (fun j hj => ?_) (fun j hj hjl => ?_)
            · rw [sl_put_ne _ _ _ _ (unwritten t ht' i him)]
              exact hbase t ht'
            · rw [getD_set_ne false (by omega)]
              exact htl j hj
            · obtain ⟨dj, hdj, _⟩ := inside j hj
              by_cases hji : j = i
              · subst hji
                rw [hdi]
                show V j (sl _ di) w''
                rw [sl_put_eq _ _ _ (by rw [hn]; exact hdin)]
                exact hVi
              · rw [getD_set_ne false (fun e => hji e.symm)] at hjl
                have h1 := hV j hj hjl
                rw [hdj] at h1 ⊢
                show V j (sl _ dj) w''
                rw [sl_put_ne _ _ _ _ (fun e => apart_of hap him hj (fun e => hji e.symm) dj e hdj)]
                exact hstab _ _ _ _ h1 hE'
          · have h1 := ready_waits hi hj
            have hjm : j < m := by
              rcases Nat.lt_or_ge j m with h2 | h2
              · exact h2
              · rw [htl j h2] at h1; cases h1
            exact hV j hjm h1
        refine ⟨fun hr => ?_, fun i hi => ?_⟩
        · exfalso
          apply hheads
          intro j
          induction j using Nat.strongRecOn with
          | _ j ihj =>
            intro hj
            rcases hlj : listed.getD j false with _ | _
            · exfalso
              have hjs : j < listed.size := by omega
              have hju : listed.getD j true = false := by simpa [hjs] using hlj
              have := ready_least hb (by omega) hju (fun i hi => ihj i hi (by omega))
              rw [hr] at this
              cases this
            · rfl
        · rcases Nat.lt_or_ge i m with him | him
          · exact step i hi him
          · exfalso
            apply hheads
            intro j hj
            obtain ⟨_, o, ho', _⟩ := mem_ready.1 hi
            have hil : i < ops.size := (Array.getElem?_eq_some_iff.1 ho').1
            have hti := List.all_eq_true.1 ht i (List.mem_range.2 hil)
            have hni : ¬ i < m := by omega
            simp only [hni, decide_false, Bool.false_or] at hti
            exact ready_waits hi (List.all_eq_true.1 hti j (List.mem_range.2 (by omega)))
  exact main ops.size (Array.replicate ops.size false) a0 w.drew (by simp) (by unfold open_; simp [List.countP_replicate]) hK0 rfl hsz (fun _ _ => rfl)
    (fun j _ => by simp [Array.getElem?_replicate]; split <;> simp) (fun j _ h => by simp [Array.getElem?_replicate] at h; split at h <;> simp at h)
theorem wp_region_GS {K : World → World → Prop} {a0 : Act} {w : World} {id : Nat} (s al n : Nat) (hm : P.follows .mixedOrders = true) (hK0 : K w w.drew) (hKt : ∀ {a b c}, K a b → K b c → K a c) (V : Nat → Value → World → Prop) (V2 : Nat → Value → Prop) (Post : Value → World → Prop)
    (hsl : decide (s < ops.size) = true) (hnone : noneB ops s = true) (hap : apartB ops ops.size = true) (hb : backW ops = true) (hal : waits ops s al = true) (hne : (al == s) = false) (hin : insideS ops s n = true) (hsz : a0.tmps.size = n)
    (hstab : ∀ i v w w', V i v w → K w w' → V i v w') (hV2 : ∀ i v w, V i v w → V2 i v)
    (hss : waits ops s s = false)
    (hop : ∀ i, i < ops.size → i ≠ s → waits ops i s = false → ∀ (a : Act) (w' : World), K w w' → (∀ t, writesB ops ops.size t = false → sl a t = sl a0 t) → (∀ j, waits ops i j = true → V j (slo a (dstAt ops j)) w') →
      wpOp P ops Q i (OpG K ops V a w' i) a w')
    (hst : ∀ (a : Act) (w' : World), K w w' → (∀ t, writesB ops ops.size t = false → sl a t = sl a0 t) → (∀ j, waits ops s j = true → V j (slo a (dstAt ops j)) w') →
      wpOp P ops Q s (fun a'' w'' => a'' = a ∧ Post (slo a (dstAt ops al)) w'') a w')
    (hop2 : ∀ i, i < ops.size → i ≠ s → waits ops s i = false → ∀ (a : Act) (w' : World), (∀ t, writesB ops ops.size t = false → sl a t = sl a0 t) → (∀ j, j ≠ s → waits ops i j = true → V2 j (slo a (dstAt ops j))) →
      wpOp P ops Q i (fun a'' w'' => (∃ v, a'' = a.put (dstAt ops i) v ∧ V2 i v) ∧ w'' = w') a w')
    (hfin : ∀ (X : Nat → Value) (w' : World), Post (X al) w' → (∀ j, j < ops.size → j ≠ s → V2 j (X j)) → Q .normal (fillA ops a0 X ops.size) w') :
    (Code.region id ops true).wp P Q a0 w := by
  have hsl' : s < ops.size := of_decide_eq_true hsl
  have hnone' : dstAt ops s = none := by simpa [noneB] using hnone
  have hne' : al ≠ s := by simpa using hne
  have hall : al < ops.size := by
    rcases Nat.lt_or_ge al ops.size with h | h
    · exact h
    · exfalso
      have hbb := List.all_eq_true.1 hb s (List.mem_range.2 hsl')
      unfold waits at hal
      rw [Array.getElem?_eq_getElem hsl'] at hbb hal
      simp only [Option.map_some, Option.getD_some, Array.all_eq_true, List.any_eq_true, Bool.and_eq_true, beq_iff_eq] at hbb hal
      obtain ⟨e, he, he1, he2⟩ := hal
      obtain ⟨k, hk, rfl⟩ := Array.getElem_of_mem (by simpa using he)
      have := hbb k hk
      rw [he2, he1] at this
      simp at this
      omega
  have inside : ∀ i, i < ops.size → i ≠ s → ∃ d, dstAt ops i = some d ∧ d < n := by
    intro i hi his
    have := List.all_eq_true.1 hin i (List.mem_range.2 hi)
    cases hd : dstAt ops i with
    | none => simp [hd, his] at this
    | some d => exact ⟨d, rfl, by simpa [hd, his] using this⟩
  have unwritten : ∀ t, writesB ops ops.size t = false → ∀ i, i < ops.size → dstAt ops i ≠ some t := by
    intro t ht i hi e
    have : writesB ops ops.size t = true := List.any_eq_true.2 ⟨i, List.mem_range.2 hi, by simp [e]⟩
    rw [ht] at this
    cases this
  have slput : ∀ (a : Act) (i j : Nat) (v : Value), i < ops.size → j < ops.size → j ≠ s → j ≠ i → slo (a.put (dstAt ops i) v) (dstAt ops j) = slo a (dstAt ops j) := by
    intro a i j v hi hj hjs hji
    obtain ⟨dj, hdj, _⟩ := inside j hj hjs
    rw [hdj]
    exact sl_put_ne _ _ _ _ (fun e => apart_of hap hi hj (fun e => hji e.symm) dj e hdj)
  have slself : ∀ (a : Act) (i : Nat) (v : Value), i < ops.size → i ≠ s → a.tmps.size = n → slo (a.put (dstAt ops i) v) (dstAt ops i) = v := by
    intro a i v hi his hn
    obtain ⟨d, hd, hdn⟩ := inside i hi his
    rw [hd]
    exact sl_put_eq _ _ _ (by rw [hn]; exact hdn)
  have notin : ∀ (listed : Array Bool) (i : Nat), listed.size = ops.size → listed.getD i true = false → listed.getD i false = true → False := by
    intro listed i hs h1 h2
    by_cases hi : i < listed.size
    · simp [hi] at h1 h2
      rw [h1] at h2
      cases h2
    · simp [hi] at h2
  refine wp_region_any hm ?_
  have main2 : ∀ (fuel : Nat) (listed : Array Bool) (a : Act) (w' : World), listed.size = ops.size → open_ listed = fuel → listed.getD s false = true → (∀ j, waits ops s j = true → listed.getD j false = true) → a.defers = a0.defers → a.tmps.size = n →
      (∀ t, writesB ops ops.size t = false → sl a t = sl a0 t) → Post (slo a (dstAt ops al)) w' → (∀ j, j < ops.size → j ≠ s → listed.getD j false = true → V2 j (slo a (dstAt ops j))) → wpAny P .any ops Q fuel listed a w' := by
    intro fuel
    induction fuel with
    | zero =>
      intro listed a w' hs ho hsL hwL hd hn hbase hP hV
      have hall' := open_none ho
      have hyes : ∀ j, j < ops.size → listed.getD j false = true := by
        intro j hj
        have hjs : j < listed.size := by omega
        have := hall' j
        simp [hjs] at this
        simp [hjs, this]
      have he : fillA ops a0 (fun j => slo a (dstAt ops j)) ops.size = a := by
        refine act_ext (by rw [fillA_defers, hd]) (by rw [fillA_size, hn, hsz]) (fun t => ?_)
        rcases hw : writesB ops ops.size t with _ | _
        · rw [sl_fillA_other _ _ _ _ (unwritten t hw), hbase t hw]
        · obtain ⟨i, hi, hit⟩ := List.any_eq_true.1 hw
          have hi := List.mem_range.1 hi
          have hit : dstAt ops i = some t := by simpa using hit
          have his : i ≠ s := by
            rintro rfl
            rw [hnone'] at hit
            cases hit
          obtain ⟨d, hd', hdn⟩ := inside i hi his
          rw [hit] at hd'
          injection hd' with hd'
          subst hd'
          rw [sl_fillA_at _ _ ops.size i hap hi t hit (by rw [hsz]; exact hdn), hit]
          rfl
      have := hfin (fun j => slo a (dstAt ops j)) w' hP (fun j hj hjs => hV j hj hjs (hyes j hj))
      rw [he] at this
      refine ⟨List.eq_nil_iff_forall_not_mem.2 (fun i hi => ?_), this⟩
      have := (mem_ready.1 hi).1
      rw [hall' i] at this
      cases this
    | succ fuel ih =>
      intro listed a w' hs ho hsL hwL hd hn hbase hP hV
      obtain ⟨k, hk, hku⟩ := open_ex ho
      refine ⟨fun hr => (ready_some hb hs (by omega) hku hr).elim, fun i hi => ?_⟩
      have hiu := (mem_ready.1 hi).1
      obtain ⟨_, o, ho', _⟩ := mem_ready.1 hi
      have hil : i < ops.size := (Array.getElem?_eq_some_iff.1 ho').1
      have his : i ≠ s := by rintro rfl; exact notin _ _ hs hiu hsL
      have hiw : waits ops s i = false := by
        rcases h : waits ops s i with _ | _
        · rfl
        · exact (notin _ _ hs hiu (hwL i h)).elim
      refine wpOp_mono (fun a'' w'' => ?_) (hop2 i hil his hiw a w' hbase (fun j hjs hj => ?_))
      · rintro ⟨⟨v, rfl, hVi⟩, rfl⟩
        have hali : al ≠ i := by
          rintro rfl
          rw [hal] at hiw
          cases hiw
        obtain ⟨di, hdi, _⟩ := inside i hil his
        refine ih _ _ w'' (by simpa using hs) (by have := open_set hiu; omega) (by rw [getD_set_ne false his]; exact hsL) (fun j hj => ?_) (by rw [hdi]; exact hd) (by rw [hdi]; simpa [Act.put] using hn)
          (fun t ht' => ?_) (by rw [slput _ _ _ _ hil hall hne' hali]; exact hP) (fun j hj hjs hjl => ?_)
        · have hji : i ≠ j := by
            rintro rfl
            rw [hj] at hiw
            cases hiw
          rw [getD_set_ne false hji]
          exact hwL j hj
        · rw [sl_put_ne _ _ _ _ (unwritten t ht' i hil)]
          exact hbase t ht'
        · by_cases hji : j = i
          · subst hji
            rw [slself _ _ _ hj hjs hn]
            exact hVi
          · rw [getD_set_ne false (fun e => hji e.symm)] at hjl
            rw [slput _ _ _ _ hil hj hjs hji]
            exact hV j hj hjs hjl
      · have h1 := ready_waits hi hj
        have hjl : j < ops.size := by
          rcases Nat.lt_or_ge j ops.size with h | h
          · exact h
          · rw [← hs] at h
            simp [Nat.not_lt.2 h] at h1
        exact hV j hjl hjs h1
  have main : ∀ (fuel : Nat) (listed : Array Bool) (a : Act) (w' : World), listed.size = ops.size → open_ listed = fuel → listed.getD s false = false → K w w' → a.defers = a0.defers → a.tmps.size = n →
      (∀ t, writesB ops ops.size t = false → sl a t = sl a0 t) → (∀ j, j < ops.size → j ≠ s → listed.getD j false = true → V j (slo a (dstAt ops j)) w') → wpAny P .any ops Q fuel listed a w' := by
    intro fuel
    induction fuel with
    | zero =>
      intro listed a w' hs ho hsL hE hd hn hbase hV
      have := open_none ho s
      have hss : s < listed.size := by omega
      simp [hss] at this hsL
      rw [this] at hsL
      cases hsL
    | succ fuel ih =>
      intro listed a w' hs ho hsL hE hd hn hbase hV
      obtain ⟨k, hk, hku⟩ := open_ex ho
      refine ⟨fun hr => (ready_some hb hs (by omega) hku hr).elim, fun i hi => ?_⟩
      have hiu := (mem_ready.1 hi).1
      obtain ⟨_, o, ho', _⟩ := mem_ready.1 hi
      have hil : i < ops.size := (Array.getElem?_eq_some_iff.1 ho').1
      have deps : ∀ j, waits ops i j = true → V j (slo a (dstAt ops j)) w' := by
        intro j hj
        have h1 := ready_waits hi hj
        have hjs : j ≠ s := by
          rintro rfl
          rw [hsL] at h1
          cases h1
        have hjl : j < ops.size := by
          rcases Nat.lt_or_ge j ops.size with h | h
          · exact h
          · rw [← hs] at h
            simp [Nat.not_lt.2 h] at h1
        exact hV j hjl hjs h1
      by_cases his : i = s
      · subst his
        refine wpOp_mono (fun a'' w'' => ?_) (hst a w' hE hbase deps)
        rintro ⟨rfl, hP⟩
        refine main2 _ _ _ w'' (by simpa using hs) (by have := open_set hiu; omega) ?_ (fun j hj => ?_) hd hn hbase hP (fun j hj hjs hjl => ?_)
        · have : i < listed.size := by omega
          simp [this]
        · have hji : i ≠ j := by
            rintro rfl
            rw [hss] at hj
            cases hj
          rw [getD_set_ne false hji]
          exact ready_waits hi hj
        · rw [getD_set_ne false (fun e => hjs e.symm)] at hjl
          exact hV2 _ _ _ (hV j hj hjs hjl)
      · refine wpOp_mono (fun a'' w'' => ?_) (hop i hil his (by
          rcases h : waits ops i s with _ | _
          · rfl
          · have := ready_waits hi h
            rw [hsL] at this
            cases this) a w' hE hbase deps)
        rintro ⟨v, rfl, hVi, hE'⟩
        obtain ⟨di, hdi, _⟩ := inside i hil his
        refine ih _ _ w'' (by simpa using hs) (by have := open_set hiu; omega) (by rw [getD_set_ne false his]; exact hsL) (hKt hE hE') (by rw [hdi]; exact hd) (by rw [hdi]; simpa [Act.put] using hn)
          (fun t ht' => ?_) (fun j hj hjs hjl => ?_)
        · rw [sl_put_ne _ _ _ _ (unwritten t ht' i hil)]
          exact hbase t ht'
        · by_cases hji : j = i
          · subst hji
            rw [slself _ _ _ hj hjs hn]
            exact hVi
          · rw [getD_set_ne false (fun e => hji e.symm)] at hjl
            rw [slput _ _ _ _ hil hj hjs hji]
            exact hstab _ _ _ _ (hV j hj hjs hjl) hE'
  exact main ops.size (Array.replicate ops.size false) a0 w.drew (by simp) (by unfold open_; simp [List.countP_replicate]) (by simp [Array.getElem?_replicate]; split <;> simp) hK0 rfl hsz (fun _ _ => rfl)
    (fun j _ _ h => by simp [Array.getElem?_replicate] at h; split at h <;> simp at h)
/-- The same over a list of properties. -/
theorem wp_region_GRL {K : World → World → Prop} {a0 : Act} {w : World} {id : Nat} (m n : Nat) (hm : P.follows .mixedOrders = true) (hK0 : K w w.drew) (hKt : ∀ {a b c}, K a b → K b c → K a c)
    (hmn : decide (m ≤ ops.size) = true) (hap : apartB ops m = true) (hb : backB ops = true) (ht : tailB ops m = true) (hin : insideB ops m n = true) (hsz : a0.tmps.size = n)
    (L : List (Value → World → Prop)) (hL : L.length = m) (hstab : StabKL K L)
    (hop : ∀ (a : Act) (w' : World), K w w' → (∀ t, writesB ops m t = false → sl a t = sl a0 t) →
      AllBelow (fun i => (∀ j, waits ops i j = true → VL L j (slo a (dstAt ops j)) w') → wpOp P ops Q i (OpG K ops (VL L) a w' i) a w') m)
    (hfin : ∀ (X : Nat → Value) (w' : World), K w w' → AllBelow (fun j => VL L j (X j) w') m → wpList P ops Q (ops.toList.drop m) (fillA ops a0 X m) w') :
    (Code.region id ops true).wp P Q a0 w := by
  subst hL
  exact wp_region_GR L.length n hm hK0 hKt (VL L) hmn hap hb ht hin hsz (fun i v w w' h hE => stabk_at L hstab i v w w' h hE)
    (fun i hi a w' hE hA hp => allBelow (hop a w' hE hA) i hi hp) (fun X w' hE hp => hfin X w' hE (by
      have : ∀ k, k ≤ L.length → AllBelow (fun j => VL L j (X j) w') k := by
        intro k
        induction k with
        | zero => intro _; trivial
        | succ k ih => intro hk; exact ⟨ih (by omega), hp k (by omega)⟩
      exact this _ (Nat.le_refl _)))
/-- A region with one store s; behind the store each property is known of some world. -/
theorem wp_region_GSL {K : World → World → Prop} {a0 : Act} {w : World} {id : Nat} (s al m n : Nat) (hm : P.follows .mixedOrders = true) (hK0 : K w w.drew) (hKt : ∀ {a b c}, K a b → K b c → K a c) (L : List (Value → World → Prop)) (Post : Value → World → Prop) (hms : ops.size = m)
    (hsl : decide (s < ops.size) = true) (hnone : noneB ops s = true) (hap : apartB ops ops.size = true) (hb : backW ops = true) (hal : waits ops s al = true) (hne : (al == s) = false) (hin : insideS ops s n = true) (hsz : a0.tmps.size = n)
    (hstab : StabKL K L) (hss : waits ops s s = false)
    (hop : ∀ (a : Act) (w' : World), K w w' → (∀ t, writesB ops ops.size t = false → sl a t = sl a0 t) →
      AllBelow (fun i => i ≠ s → waits ops i s = false → (∀ j, waits ops i j = true → VL L j (slo a (dstAt ops j)) w') → wpOp P ops Q i (OpG K ops (VL L) a w' i) a w') m)
    (hst : ∀ (a : Act) (w' : World), K w w' → (∀ t, writesB ops ops.size t = false → sl a t = sl a0 t) → (∀ j, waits ops s j = true → VL L j (slo a (dstAt ops j)) w') →
      wpOp P ops Q s (fun a'' w'' => a'' = a ∧ Post (slo a (dstAt ops al)) w'') a w')
    (hop2 : ∀ (a : Act) (w' : World), (∀ t, writesB ops ops.size t = false → sl a t = sl a0 t) →
      AllBelow (fun i => i ≠ s → waits ops s i = false → (∀ j, j ≠ s → waits ops i j = true → ∃ w0, VL L j (slo a (dstAt ops j)) w0) → wpOp P ops Q i (fun a'' w'' => (∃ v, a'' = a.put (dstAt ops i) v ∧ ∃ w0, VL L i v w0) ∧ w'' = w') a w') m)
    (hfin : ∀ (X : Nat → Value) (w' : World), Post (X al) w' → AllBelow (fun j => j ≠ s → ∃ w0, VL L j (X j) w0) m → Q .normal (fillA ops a0 X m) w') :
    (Code.region id ops true).wp P Q a0 w := by
  subst hms
  exact wp_region_GS s al n hm hK0 hKt (VL L) (fun i v => ∃ w0, VL L i v w0) Post hsl hnone hap hb hal hne hin hsz (fun i v w w' h hE => stabk_at L hstab i v w w' h hE) (fun _ _ w h => ⟨w, h⟩) hss
    (fun i hi his hw a w' hE hA hp => allBelow (hop a w' hE hA) i hi his hw hp) hst (fun i hi his hw a w' hA hp => allBelow (hop2 a w' hA) i hi his hw hp)
    (fun X w' hP hX => hfin X w' hP (by
      have : ∀ k, k ≤ ops.size → AllBelow (fun j => j ≠ s → ∃ w0, VL L j (X j) w0) k := by
        intro k
        induction k with
        | zero => intro _; trivial
        | succ k ih => intro hk; exact ⟨ih (by omega), fun h => hX k (by omega) h⟩
      exact this _ (Nat.le_refl _)))
end
end Go.Proofs.YtabgcpoaepafjaaGreat
namespace Go.Proofs.YtabgcpoaepafjaaGreat
open Go.RowKit
/-- Behind a draw: of old memory the cursor's block alone has turned, and it is a cursor. -/
structure Gx (g : Nat) (l : List Int) (w w' : World) : Prop where
  gr : w.grownBy w' (some g)
  cur : Cur w' g l
section
variable {g : Nat} {l : List Int} {a b c w w' : World}
theorem Gx.trans (h : Gx g l a b) (k : Gx g l b c) : Gx g l a c := ⟨h.gr.trans k.gr, k.cur⟩
theorem Gx.refl (h : Cur w g l) : Gx g l w w := ⟨World.grownBy.refl _ _, h⟩
theorem Gx.ext (h : Cur w g l) (hE : Ext w w') : Gx g l w w' := ⟨ext_grown hE _, h.ext hE⟩
theorem Gx.drew (h : Cur w g l) : Gx g l w w.drew := Gx.ext h (Ext.refl w).drew
theorem Gx.cell (h : Gx g l w w') {q o : Nat} {v : Value} (hq : q < w.heap.size) (hn : q ≠ g) (hc : w.cell? ⟨q, o, none⟩ = some v) : w'.cell? ⟨q, o, none⟩ = some v := (grown_cells h.gr q o hq hn).trans hc
theorem Gx.frz (h : Gx g l w w') {q : Nat} {b : Bool} (hq : q < w.heap.size) (hn : q ≠ g) (hc : ∀ o, w.frozen? ⟨q, o, none⟩ = b) (o : Nat) : w'.frozen? ⟨q, o, none⟩ = b := (grown_frz h.gr q o hq hn).trans (hc o)
theorem Gx.size (h : Gx g l w w') : w.heap.size ≤ w'.heap.size := h.gr.size
theorem Gx.bx (h : Gx g l w w') {bs : List (Nat × List Value)} (ha : Ap (some g) bs) (hb : Bx bs w) : Bx bs w' := Bx.grownA h.gr ha hb
theorem Gx.tr (h : Gx g l w w') {bs : List (Nat × List Value)} (ha : Ap (some g) bs) {w0 : World} (hb : Tr bs w0 w) : Tr bs w' w' := ⟨Bx.grownA h.gr ha hb.1, Ext.refl _⟩
end
/-- A window with rows of its own in blocks from base on, block b left out. -/
structure WD (w : World) (base b : Nat) (N E : List P2) (A B : Option Addr) (c c' : Nat) : Prop where
  nodes : w.ownsRow base 84 2 (.slice A N.length c) N.length (enc2 N)
  leads : w.ownsRow base 110 2 (.slice B E.length c') E.length (enc2 E)
  an : ∀ k, (Value.slice A N.length c).ownBlock = some k → k ≠ b
  al : ∀ k, (Value.slice B E.length c').ownBlock = some k → k ≠ b
section
variable {g base b : Nat} {l : List Int} {w w' : World} {N E : List P2} {A B : Option Addr} {c c' : Nat}
theorem WD.ext (h : WD w base b N E A B c c') (hE : Ext w w') : WD w' base b N E A B c c' := ⟨own_ext h.nodes hE, own_ext h.leads hE, h.an, h.al⟩
theorem WD.gx (h : WD w base b N E A B c c') (hg : Gx g l w w') (hb : g < base) : WD w' base b N E A B c c' :=
  ⟨h.nodes.kept hg.gr (.inr fun e => by have := (h.nodes.lt g e).1; omega), h.leads.kept hg.gr (.inr fun e => by have := (h.leads.lt g e).1; omega), h.an, h.al⟩
theorem WD.set (h : WD w base b N E A B c c') (o : Nat) (v : Value) : WD (w.setCell ⟨b, o, none⟩ v) base b N E A B c c' := ⟨own_setn h.nodes h.an v, own_setn h.leads h.al v, h.an, h.al⟩
theorem WD.low (h : WD w base b N E A B c c') {k : Nat} (hk : k < base) (o : Nat) (v : Value) : WD (w.setCell ⟨k, o, none⟩ v) base b N E A B c c' := ⟨own_setk h.nodes hk v, own_setk h.leads hk v, h.an, h.al⟩
theorem WD.wr (h : WD w base b N E A B c c') (hN : N.length ≤ 1048576) (hE : E.length ≤ 1048576) : WR w N E A B c c' := by
  obtain ⟨_, _, e1, h1, _⟩ := own_slice h.nodes
  obtain ⟨_, _, e2, h2, _⟩ := own_slice h.leads
  injection e1 with _ _ e1
  injection e2 with _ _ e2
  exact ⟨hN, hE, by omega, by omega, Rds.of_own h.nodes, Rds.of_own h.leads⟩
theorem WD.wn (h : WD w base b N E A B c c') : WN w base N E A B c c' := ⟨h.nodes, h.leads⟩
theorem WN.wd {base' : Nat} (h : WN w base' N E A B c c') (hb : base ≤ base') (hbb : b < base') : WD w base b N E A B c c' :=
  ⟨own_mono h.nodes hb, own_mono h.leads hb, fun k e => by have := (h.nodes.lt k e).1; omega, fun k e => by have := (h.leads.lt k e).1; omega⟩
theorem WN.mono {base' : Nat} (h : WN w base' N E A B c c') (hb : base ≤ base') : WN w base N E A B c c' := ⟨own_mono h.nodes hb, own_mono h.leads hb⟩
theorem WN.ext (h : WN w base N E A B c c') (hE : Ext w w') : WN w' base N E A B c c' := ⟨own_ext h.nodes hE, own_ext h.leads hE⟩
theorem WN.gx (h : WN w base N E A B c c') (hg : Gx g l w w') (hb : g < base) : WN w' base N E A B c c' :=
  ⟨h.nodes.kept hg.gr (.inr fun e => by have := (h.nodes.lt g e).1; omega), h.leads.kept hg.gr (.inr fun e => by have := (h.leads.lt g e).1; omega)⟩
theorem WN.low (h : WN w base N E A B c c') {k : Nat} (hk : k < base) (o : Nat) (v : Value) : WN (w.setCell ⟨k, o, none⟩ v) base N E A B c c' := ⟨own_setk h.nodes hk v, own_setk h.leads hk v⟩
theorem WN.wr (h : WN w base N E A B c c') (hN : N.length ≤ 1048576) (hE : E.length ≤ 1048576) : WR w N E A B c c' := by
  obtain ⟨_, _, e1, h1, _⟩ := own_slice h.nodes
  obtain ⟨_, _, e2, h2, _⟩ := own_slice h.leads
  injection e1 with _ _ e1
  injection e2 with _ _ e2
  exact ⟨hN, hE, by omega, by omega, Rds.of_own h.nodes, Rds.of_own h.leads⟩
end
theorem Bx.set2 {w : World} {b : Nat} {u v x y : Value} {bs : List (Nat × List Value)} (h : Bx ((b, [u, v]) :: bs) w) (ha : Ap (some b) bs) : Bx ((b, [x, y]) :: bs) ((w.setCell ⟨b, 0, none⟩ x).setCell ⟨b, 1, none⟩ y) := by
  obtain ⟨⟨h1, h2, h3, h4, _⟩, h5⟩ := h
  have h4 : w.cell? ⟨b, 1, none⟩ = some v := by simpa using h4
  refine ⟨⟨by simpa using h1, fun i => by simp [World.frozen?_setCell, h2], ?_, ?_, trivial⟩, Bx.grownA (row := some b) (grown_set (grown_set (World.grownBy.refl w (some b)) 0 x) 1 y) ha h5⟩
  · simp [go_sem, h3]
  · simp [go_sem, h4]
/-- A window's box behind a store: the world told by the store alone. -/
theorem Tr.set2 {w a W : World} {b : Nat} {u v x y : Value} {bs : List (Nat × List Value)} (h : Tr ((b, [u, v]) :: bs) a w) (ha : Ap (some b) bs) (hW : W = (w.setCell ⟨b, 0, none⟩ x).setCell ⟨b, 1, none⟩ y) : Tr ((b, [x, y]) :: bs) W W := by
  subst hW
  exact ⟨h.1.set2 ha, Ext.refl _⟩
theorem WD.set2 {base b : Nat} {w W : World} {N E : List P2} {A B : Option Addr} {c c' : Nat} {x y : Value} (h : WD w base b N E A B c c') (hW : W = (w.setCell ⟨b, 0, none⟩ x).setCell ⟨b, 1, none⟩ y) : WD W base b N E A B c c' := by
  subst hW
  exact (h.set 0 x).set 1 y
theorem Gx.set2 {g b : Nat} {l : List Int} {w w' W : World} {x y : Value} (h : Gx g l w w') (hb : w.heap.size ≤ b) (hg : g < b) (hW : W = (w'.setCell ⟨b, 0, none⟩ x).setCell ⟨b, 1, none⟩ y) : Gx g l w W := by
  subst hW
  exact ⟨grown_new (grown_new h.gr hb 0 x) hb 1 y, (h.cur.setk hg 0 x).setk hg 1 y⟩
theorem WO.wd {w : World} {base b' b : Nat} {N E : List P2} {A B : Option Addr} {c c' : Nat} (h : WO w b' N E A B c c') (hb : base ≤ b') (hs : w.heap.size ≤ b) : WD w base b N E A B c c' :=
  ⟨own_mono h.nodes hb, own_mono h.leads hb, fun k e => by have := (h.nodes.lt k e).2; omega, fun k e => by have := (h.leads.lt k e).2; omega⟩
theorem own_same {w w' : World} {base n sz : Nat} {T : TypeId} {v : Value} {xs : List Value} (ho : w.ownsRow base T sz v n xs) (hs : ∀ k, v.ownBlock = some k → w'.heap[k]? = w.heap[k]?) : w'.ownsRow base T sz v n xs := by
  rcases ho.2 with ⟨rfl, h0⟩ | ⟨g, c, cur, rfl, h1, h2, h3⟩
  · exact ⟨ho.1, .inl ⟨rfl, h0⟩⟩
  · exact ⟨ho.1, .inr ⟨g, c, cur, rfl, h1, (hs g rfl).trans h2, h3⟩⟩
theorem own_prefix {w : World} {base n m cap sz g : Nat} {T : TypeId} {xs ys : List Value} (h : w.ownsRow base T sz (.slice (some ⟨g, 0, none⟩) (n + m) cap) (n + m) (xs ++ ys)) (hx : xs.length = n * sz) : w.ownsRow base T sz (.slice (some ⟨g, 0, none⟩) n cap) n xs := by
  rcases h.2 with ⟨q, _⟩ | ⟨g', c, cur, q, h1, h2, h3, h4, h5, h6⟩
  · cases q
  · injection q with q1 _ q3
    injection q1 with q1
    injection q1 with q1
    subst q1 q3
    refine ⟨hx, .inr ⟨g, cap, cur, rfl, h1, h2, by omega, h4, h5, ?_⟩⟩
    have e := congrArg (List.take (n * sz)) h6
    rw [List.take_take, List.take_left' hx, Nat.min_eq_left (Nat.mul_le_mul_right _ (by omega))] at e
    exact e
theorem CellsAt.same {w w' : World} {b : Nat} (hblk : w'.heap[b]? = w.heap[b]?) : ∀ {vs : List Value} {i : Nat}, CellsAt w b i vs → CellsAt w' b i vs
  | [], _, _ => trivial
  | _ :: _, _, h => ⟨by rw [← h.1]; exact World.cell?_of_block hblk, CellsAt.same hblk h.2⟩
theorem Bx.same {w w' : World} (hz : w.heap.size ≤ w'.heap.size) : ∀ {bs : List (Nat × List Value)}, (∀ p ∈ bs, w'.heap[p.1]? = w.heap[p.1]?) → Bx bs w → Bx bs w'
  | [], _, _ => trivial
  | (b, vs) :: bs, hb, h => by
    have hblk := hb (b, vs) (by simp)
    refine ⟨⟨Nat.lt_of_lt_of_le h.1.1 hz, fun i => ?_, ?_⟩, Bx.same hz (fun q hq => hb q (by simp [hq])) h.2⟩
    · rw [← h.1.2.1 i]
      exact World.frozen?_of_block hblk
    · exact CellsAt.same hblk h.1.2.2
theorem Cur.grown {w w' : World} {g r : Nat} {l : List Int} (h : Cur w g l) (hg : w.grownBy w' (some r)) (hr : g < r) : Cur w' g l := by
  obtain ⟨A, c, i, h', h1, h2, h3, h4⟩ := h
  exact ⟨A, c, i, h', h1, h2.grown hg (fun e => by injection e; omega), h3.grown (fun h b off e => Nat.lt_trans (h4 h b off e) hr) hg, h4⟩
/-- Worlds of a region with a cursor g and an append to the row of N in block r (capacity d). -/
structure KA (g r base d : Nat) (l : List Int) (N : List P2) (w w' : World) : Prop where
  os : w'.os = w.os
  tape : w'.tape = w.tape
  output : w'.output = w.output
  size : w.heap.size ≤ w'.heap.size
  block : ∀ k, k < w.heap.size → k ≠ g → k ≠ r → w'.heap[k]? = w.heap[k]?
  cur : Cur w' g l
  row : w'.heap[r]? = w.heap[r]? ∨ ∃ x y, w'.ownsRow base 84 2 (.slice (some ⟨r, 0, none⟩) (N.length + 1) d) (N.length + 1) (enc2 (N ++ [(x, y)]))
section
variable {g r base d : Nat} {l : List Int} {N : List P2} {a b c w w' : World}
theorem KA.trans (h : KA g r base d l N a b) (k : KA g r base d l N b c) : KA g r base d l N a c :=
  ⟨k.os.trans h.os, k.tape.trans h.tape, k.output.trans h.output, Nat.le_trans h.size k.size, fun i hi h1 h2 => (k.block i (Nat.lt_of_lt_of_le hi h.size) h1 h2).trans (h.block i hi h1 h2), k.cur, by
    rcases k.row with q | q
    · rcases h.row with p | ⟨x, y, p⟩
      · exact .inl (q.trans p)
      · exact .inr ⟨x, y, own_same p fun i e => by have e : some r = some i := e; injection e with e; subst e; exact q⟩
    · exact .inr q⟩
theorem KA.of_gx (h : Gx g l w w') (hr : r < w.heap.size) (hne : r ≠ g) : KA g r base d l N w w' :=
  ⟨h.gr.os, h.gr.tape, h.gr.output, h.gr.size, fun k hk h1 _ => h.gr.block k hk (fun e => h1 (by injection e)), h.cur, .inl (h.gr.block r hr (fun e => hne (by injection e)))⟩
theorem KA.old (h : KA g r base d l N w w') (ho : w.ownsRow base 84 2 (.slice (some ⟨r, 0, none⟩) N.length d) N.length (enc2 N)) : w'.ownsRow base 84 2 (.slice (some ⟨r, 0, none⟩) N.length d) N.length (enc2 N) := by
  rcases h.row with q | ⟨x, y, q⟩
  · exact own_same ho fun i e => by have e : some r = some i := e; injection e with e; subst e; exact q
  · rw [enc2_append] at q
    exact own_prefix q (enc2_length _)
theorem KA.own (h : KA g r base d l N w w') {b0 n sz : Nat} {T : TypeId} {v : Value} {xs : List Value} (ho : w.ownsRow b0 T sz v n xs) (hs : ∀ k, v.ownBlock = some k → k ≠ g ∧ k ≠ r) : w'.ownsRow b0 T sz v n xs :=
  own_same ho fun k e => h.block k (ho.lt k e).2 (hs k e).1 (hs k e).2
theorem KA.fits (hc : Cur w g l) (hg : w.grownBy w' (some r)) (hr : g < r) {x y : Int} (ho : w'.ownsRow base 84 2 (.slice (some ⟨r, 0, none⟩) (N.length + 1) d) (N.length + 1) (enc2 (N ++ [(x, y)]))) : KA g r base d l N w w' :=
  ⟨hg.os, hg.tape, hg.output, hg.size, fun k hk _ h2 => hg.block k hk (fun e => h2 (by injection e)), hc.grown hg hr, .inr ⟨x, y, ho⟩⟩
theorem KA.bx (h : KA g r base d l N w w') {bs : List (Nat × List Value)} (hb : Bx bs w) (ha : Ap (some g) bs) (hr : Ap (some r) bs) : Bx bs w' := by
  refine Bx.same h.size (fun p hp => ?_) hb
  have : p.1 < w.heap.size ∧ p.1 ≠ g ∧ p.1 ≠ r := by
    clear h
    induction bs with
    | nil => cases hp
    | cons q bs ih =>
      rcases List.mem_cons.1 hp with e | e
      · subst e
        exact ⟨hb.1.1, fun e => ha.1 (by rw [e]), fun e => hr.1 (by rw [e])⟩
      · exact ih hb.2 ha.2 hr.2 e
  exact h.block _ this.1 this.2.1 this.2.2
end
/-- The list appended to, as a value. -/
def AppV (r base d lo g : Nat) (N : List P2) (v : Value) (w : World) : Prop :=
  ∃ (x y : Int) (A : Option Addr) (c : Nat), v = .slice A (N.length + 1) c ∧ w.ownsRow base 84 2 (.slice A (N.length + 1) c) (N.length + 1) (enc2 (N ++ [(x, y)])) ∧ ((A = some ⟨r, 0, none⟩ ∧ c = d) ∨ ∀ k, (Value.slice A (N.length + 1) c).ownBlock = some k → lo ≤ k ∧ k ≠ g ∧ k ≠ r)
theorem AppV.stab {g r base d lo : Nat} {l : List Int} {N : List P2} (hne : r ≠ g) : StabK (KA g r base d l N) (AppV r base d lo g N) := by
  rintro v w w' ⟨x, y, A, c, h1, h2, h3⟩ hK
  rcases h3 with ⟨rfl, rfl⟩ | h3
  · rcases hK.row with q | ⟨x', y', q⟩
    · exact ⟨x, y, _, _, h1, own_same h2 fun i e => by have e : some r = some i := e; injection e with e; subst e; exact q, .inl ⟨rfl, rfl⟩⟩
    · exact ⟨x', y', _, _, h1, q, .inl ⟨rfl, rfl⟩⟩
  · exact ⟨x, y, A, c, h1, hK.own h2 fun k e => (h3 k e).2, .inr h3⟩
end Go.Proofs.YtabgcpoaepafjaaGreat
