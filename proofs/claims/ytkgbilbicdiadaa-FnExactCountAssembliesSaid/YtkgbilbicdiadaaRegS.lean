/- A region whose operations may come in several orders and of which one stores into a fresh block, at any time after the operations that it waits for; what may come behind the store is pure. No condition. -/
import Derived.Test.YtkgbilbicdiadaaRegR
set_option linter.unusedSimpArgs false
set_option linter.unusedVariables false
namespace Go.Proofs.Ytkgbilbicdiadaa
open Go.RowKit

section
variable {P : Program} {ops : Array Oper} {Q : Exit → Act → World → Prop}
/-- Every operation waits for earlier ones alone (edges that do not bind left aside). -/
def backW (ops : Array Oper) : Bool := (List.range ops.size).all fun i => ((ops[i]?).map fun o => o.after.all fun e => !Region.binds .any e || decide (e.on < i)).getD true
theorem ready_leastW {listed : Array Bool} (hb : backW ops = true) {i : Nat} (hi : i < ops.size) (hu : listed.getD i true = false) (hl : ∀ j, j < i → listed.getD j false = true) : i ∈ Region.ready .any ops listed := by
  refine mem_ready.2 ⟨hu, ops[i], by simp [hi], fun e he hbi => hl _ ?_⟩
  have h1 := List.all_eq_true.1 hb i (List.mem_range.2 hi)
  rw [Array.getElem?_eq_getElem hi] at h1
  simp only [Option.map_some, Option.getD_some, Array.all_eq_true] at h1
  obtain ⟨k, hk, rfl⟩ := Array.getElem_of_mem he
  have := h1 k hk
  rw [hbi] at this
  simpa using this
/-- Some operation is ready as long as one is open. -/
theorem ready_some {listed : Array Bool} (hb : backW ops = true) (hs : listed.size = ops.size) {i : Nat} (hi : i < ops.size) (hu : listed.getD i true = false) : Region.ready .any ops listed ≠ [] := by
  induction i using Nat.strongRecOn with
  | _ i ih =>
    by_cases h : ∃ j, j < i ∧ listed.getD j true = false
    · obtain ⟨j, hj, hu'⟩ := h
      exact ih j hj (by omega) hu'
    · have := ready_leastW hb hi hu (fun j hj => by
        have hj' : ¬ listed.getD j true = false := fun e => h ⟨j, hj, e⟩
        have hjs : j < listed.size := by omega
        simp [hjs] at hj' ⊢
        exact hj')
      intro e
      rw [e] at this
      cases this
theorem open_ex {listed : Array Bool} {f : Nat} (h : open_ listed = f + 1) : ∃ i, i < listed.size ∧ listed.getD i true = false := by
  unfold open_ at h
  have hpos : 0 < listed.toList.countP (fun b => !b) := by omega
  rw [List.countP_pos_iff] at hpos
  obtain ⟨b, hb, hn⟩ := hpos
  obtain ⟨i, hi, rfl⟩ := List.getElem_of_mem hb
  refine ⟨i, by simpa using hi, ?_⟩
  have hi' : i < listed.size := by simpa using hi
  simpa [hi'] using hn
def noneB (ops : Array Oper) (s : Nat) : Bool := dstAt ops s == none
def insideS (ops : Array Oper) (s n : Nat) : Bool := (List.range ops.size).all fun i => i == s || match dstAt ops i with | some d => decide (d < n) | none => false

theorem wp_region_S {a0 : Act} {w : World} {id : Nat} (s al n : Nat) (hm : P.follows .mixedOrders = true) (V : Nat → Value → World → Prop) (V2 : Nat → Value → Prop) (Post : Value → World → Prop)
    (hsl : decide (s < ops.size) = true) (hnone : noneB ops s = true) (hap : apartB ops ops.size = true) (hb : backW ops = true) (hal : waits ops s al = true) (hne : (al == s) = false) (hin : insideS ops s n = true) (hsz : a0.tmps.size = n)
    (hstab : ∀ i v w w', V i v w → Ext w w' → V i v w') (hV2 : ∀ i v w, V i v w → V2 i v)
    (hss : waits ops s s = false)
    (hop : ∀ i, i < ops.size → i ≠ s → waits ops i s = false → ∀ (a : Act) (w' : World), Ext w w' → (∀ t, writesB ops ops.size t = false → sl a t = sl a0 t) → (∀ j, waits ops i j = true → V j (slo a (dstAt ops j)) w') →
      wpOp P ops Q i (OpK ops V a w' i) a w')
    (hst : ∀ (a : Act) (w' : World), Ext w w' → (∀ t, writesB ops ops.size t = false → sl a t = sl a0 t) → (∀ j, waits ops s j = true → V j (slo a (dstAt ops j)) w') →
      wpOp P ops Q s (fun a'' w'' => a'' = a ∧ Post (slo a (dstAt ops al)) w'') a w')
    (hop2 : ∀ i, i < ops.size → i ≠ s → waits ops s i = false → ∀ (a : Act) (w' : World), (∀ t, writesB ops ops.size t = false → sl a t = sl a0 t) → (∀ j, j ≠ s → waits ops i j = true → V2 j (slo a (dstAt ops j))) →
      wpOp P ops Q i (fun a'' w'' => (∃ v, a'' = a.put (dstAt ops i) v ∧ V2 i v) ∧ w'' = w') a w')
    (hfin : ∀ (X : Nat → Value) (w' : World), Post (X al) w' → (∀ j, j < ops.size → j ≠ s → V2 j (X j)) → Q .normal (fillA ops a0 X ops.size) w') :
    (Code.region id ops true).wp P Q a0 w := by
  have hsl' : s < ops.size := of_decide_eq_true hsl
  have hnone' : dstAt ops s = none := by simpa [noneB] using hnone
  have hne' : al ≠ s := by simpa using hne
  have hall : al < ops.size := by
    rcases Nat.lt_or_ge al ops.size with h | h
    · exact h
    · exfalso
      have hbb := List.all_eq_true.1 hb s (List.mem_range.2 hsl')
      unfold waits at hal
      rw [Array.getElem?_eq_getElem hsl'] at hbb hal
      simp only [Option.map_some, Option.getD_some, Array.all_eq_true, List.any_eq_true, Bool.and_eq_true, beq_iff_eq] at hbb hal
      obtain ⟨e, he, he1, he2⟩ := hal
      obtain ⟨k, hk, rfl⟩ := Array.getElem_of_mem (by simpa using he)
      have := hbb k hk
      rw [he2, he1] at this
      simp at this
      omega
  have inside : ∀ i, i < ops.size → i ≠ s → ∃ d, dstAt ops i = some d ∧ d < n := by
    intro i hi his
    have := List.all_eq_true.1 hin i (List.mem_range.2 hi)
    cases hd : dstAt ops i with
    | none => simp [hd, his] at this
    | some d => exact ⟨d, rfl, by simpa [hd, his] using this⟩
  have unwritten : ∀ t, writesB ops ops.size t = false → ∀ i, i < ops.size → dstAt ops i ≠ some t := by
    intro t ht i hi e
    have : writesB ops ops.size t = true := List.any_eq_true.2 ⟨i, List.mem_range.2 hi, by simp [e]⟩
    rw [ht] at this
    cases this
  have slput : ∀ (a : Act) (i j : Nat) (v : Value), i < ops.size → j < ops.size → j ≠ s → j ≠ i → slo (a.put (dstAt ops i) v) (dstAt ops j) = slo a (dstAt ops j) := by
    intro a i j v hi hj hjs hji
    obtain ⟨dj, hdj, _⟩ := inside j hj hjs
    rw [hdj]
    exact sl_put_ne _ _ _ _ (fun e => apart_of hap hi hj (fun e => hji e.symm) dj e hdj)
  have slself : ∀ (a : Act) (i : Nat) (v : Value), i < ops.size → i ≠ s → a.tmps.size = n → slo (a.put (dstAt ops i) v) (dstAt ops i) = v := by
    intro a i v hi his hn
    obtain ⟨d, hd, hdn⟩ := inside i hi his
    rw [hd]
    exact sl_put_eq _ _ _ (by rw [hn]; exact hdn)
  have notin : ∀ (listed : Array Bool) (i : Nat), listed.size = ops.size → listed.getD i true = false → listed.getD i false = true → False := by
    intro listed i hs h1 h2
    by_cases hi : i < listed.size
    · simp [hi] at h1 h2
      rw [h1] at h2
      cases h2
    · simp [hi] at h2
  refine wp_region_any hm ?_
  have main2 : ∀ (fuel : Nat) (listed : Array Bool) (a : Act) (w' : World), listed.size = ops.size → open_ listed = fuel → listed.getD s false = true → (∀ j, waits ops s j = true → listed.getD j false = true) → a.defers = a0.defers → a.tmps.size = n →
      (∀ t, writesB ops ops.size t = false → sl a t = sl a0 t) → Post (slo a (dstAt ops al)) w' → (∀ j, j < ops.size → j ≠ s → listed.getD j false = true → V2 j (slo a (dstAt ops j))) → wpAny P .any ops Q fuel listed a w' := by
    intro fuel
    induction fuel with
    | zero =>
      intro listed a w' hs ho hsL hwL hd hn hbase hP hV
      have hall' := open_none ho
      have hyes : ∀ j, j < ops.size → listed.getD j false = true := by
        intro j hj
        have hjs : j < listed.size := by omega
        have := hall' j
        simp [hjs] at this
        simp [hjs, this]
      have he : fillA ops a0 (fun j => slo a (dstAt ops j)) ops.size = a := by
        refine act_ext (by rw [fillA_defers, hd]) (by rw [fillA_size, hn, hsz]) (fun t => ?_)
        rcases hw : writesB ops ops.size t with _ | _
        · rw [sl_fillA_other _ _ _ _ (unwritten t hw), hbase t hw]
        · obtain ⟨i, hi, hit⟩ := List.any_eq_true.1 hw
          have hi := List.mem_range.1 hi
          have hit : dstAt ops i = some t := by simpa using hit
          have his : i ≠ s := by
            rintro rfl
            rw [hnone'] at hit
            cases hit
          obtain ⟨d, hd', hdn⟩ := inside i hi his
          rw [hit] at hd'
          injection hd' with hd'
          subst hd'
          rw [sl_fillA_at _ _ ops.size i hap hi t hit (by rw [hsz]; exact hdn), hit]
          rfl
      have := hfin (fun j => slo a (dstAt ops j)) w' hP (fun j hj hjs => hV j hj hjs (hyes j hj))
      rw [he] at this
      refine ⟨List.eq_nil_iff_forall_not_mem.2 (fun i hi => ?_), this⟩
      have := (mem_ready.1 hi).1
      rw [hall' i] at this
      cases this
    | succ fuel ih =>
      intro listed a w' hs ho hsL hwL hd hn hbase hP hV
      obtain ⟨k, hk, hku⟩ := open_ex ho
      refine ⟨fun hr => (ready_some hb hs (by omega) hku hr).elim, fun i hi => ?_⟩
      have hiu := (mem_ready.1 hi).1
      obtain ⟨_, o, ho', _⟩ := mem_ready.1 hi
      have hil : i < ops.size := (Array.getElem?_eq_some_iff.1 ho').1
      have his : i ≠ s := by rintro rfl; exact notin _ _ hs hiu hsL
      have hiw : waits ops s i = false := by
        rcases h : waits ops s i with _ | _
        · rfl
        · exact (notin _ _ hs hiu (hwL i h)).elim
      refine wpOp_mono (fun a'' w'' => ?_) (hop2 i hil his hiw a w' hbase (fun j hjs hj => ?_))
      · rintro ⟨⟨v, rfl, hVi⟩, rfl⟩
        have hali : al ≠ i := by
          rintro rfl
          rw [hal] at hiw
          cases hiw
        obtain ⟨di, hdi, _⟩ := inside i hil his
        refine ih _ _ w'' (by simpa using hs) (by have := open_set hiu; omega) (by rw [getD_set_ne false his]; exact hsL) (fun j hj => ?_) (by rw [hdi]; exact hd) (by rw [hdi]; simpa [Act.put] using hn)
          (fun t ht' => ?_) (by rw [slput _ _ _ _ hil hall hne' hali]; exact hP) (fun j hj hjs hjl => ?_)
        · have hji : i ≠ j := by
            rintro rfl
            rw [hj] at hiw
            cases hiw
          rw [getD_set_ne false hji]
          exact hwL j hj
        · rw [sl_put_ne _ _ _ _ (unwritten t ht' i hil)]
          exact hbase t ht'
        · by_cases hji : j = i
          · subst hji
            rw [slself _ _ _ hj hjs hn]
            exact hVi
          · rw [getD_set_ne false (fun e => hji e.symm)] at hjl
            rw [slput _ _ _ _ hil hj hjs hji]
            exact hV j hj hjs hjl
      · have h1 := ready_waits hi hj
        have hjl : j < ops.size := by
          rcases Nat.lt_or_ge j ops.size with h | h
          · exact h
          · rw [← hs] at h
            simp [Nat.not_lt.2 h] at h1
        exact hV j hjl hjs h1
  have main : ∀ (fuel : Nat) (listed : Array Bool) (a : Act) (w' : World), listed.size = ops.size → open_ listed = fuel → listed.getD s false = false → Ext w w' → a.defers = a0.defers → a.tmps.size = n →
      (∀ t, writesB ops ops.size t = false → sl a t = sl a0 t) → (∀ j, j < ops.size → j ≠ s → listed.getD j false = true → V j (slo a (dstAt ops j)) w') → wpAny P .any ops Q fuel listed a w' := by
    intro fuel
    induction fuel with
    | zero =>
      intro listed a w' hs ho hsL hE hd hn hbase hV
      have := open_none ho s
      have hss : s < listed.size := by omega
      simp [hss] at this hsL
      rw [this] at hsL
      cases hsL
    | succ fuel ih =>
      intro listed a w' hs ho hsL hE hd hn hbase hV
      obtain ⟨k, hk, hku⟩ := open_ex ho
      refine ⟨fun hr => (ready_some hb hs (by omega) hku hr).elim, fun i hi => ?_⟩
      have hiu := (mem_ready.1 hi).1
      obtain ⟨_, o, ho', _⟩ := mem_ready.1 hi
      have hil : i < ops.size := (Array.getElem?_eq_some_iff.1 ho').1
      have deps : ∀ j, waits ops i j = true → V j (slo a (dstAt ops j)) w' := by
        intro j hj
        have h1 := ready_waits hi hj
        have hjs : j ≠ s := by
          rintro rfl
          rw [hsL] at h1
          cases h1
        have hjl : j < ops.size := by
          rcases Nat.lt_or_ge j ops.size with h | h
          · exact h
          · rw [← hs] at h
            simp [Nat.not_lt.2 h] at h1
        exact hV j hjl hjs h1
      by_cases his : i = s
      · subst his
        refine wpOp_mono (fun a'' w'' => ?_) (hst a w' hE hbase deps)
        rintro ⟨rfl, hP⟩
        refine main2 _ _ _ w'' (by simpa using hs) (by have := open_set hiu; omega) ?_ (fun j hj => ?_) hd hn hbase hP (fun j hj hjs hjl => ?_)
        · have : i < listed.size := by omega
          simp [this]
        · have hji : i ≠ j := by
            rintro rfl
            rw [hss] at hj
            cases hj
          rw [getD_set_ne false hji]
          exact ready_waits hi hj
        · rw [getD_set_ne false (fun e => hjs e.symm)] at hjl
          exact hV2 _ _ _ (hV j hj hjs hjl)
      · refine wpOp_mono (fun a'' w'' => ?_) (hop i hil his (by
          rcases h : waits ops i s with _ | _
          · rfl
          · have := ready_waits hi h
            rw [hsL] at this
            cases this) a w' hE hbase deps)
        rintro ⟨v, rfl, hVi, hE'⟩
        obtain ⟨di, hdi, _⟩ := inside i hil his
        refine ih _ _ w'' (by simpa using hs) (by have := open_set hiu; omega) (by rw [getD_set_ne false his]; exact hsL) (hE.trans hE') (by rw [hdi]; exact hd) (by rw [hdi]; simpa [Act.put] using hn)
          (fun t ht' => ?_) (fun j hj hjs hjl => ?_)
        · rw [sl_put_ne _ _ _ _ (unwritten t ht' i hil)]
          exact hbase t ht'
        · by_cases hji : j = i
          · subst hji
            rw [slself _ _ _ hj hjs hn]
            exact hVi
          · rw [getD_set_ne false (fun e => hji e.symm)] at hjl
            rw [slput _ _ _ _ hil hj hjs hji]
            exact hstab _ _ _ _ (hV j hj hjs hjl) hE'
  exact main ops.size (Array.replicate ops.size false) a0 w.drew (by simp) (by unfold open_; simp [List.countP_replicate]) (by simp [Array.getElem?_replicate]; split <;> simp) (Ext.refl w).drew rfl hsz (fun _ _ => rfl)
    (fun j _ _ h => by simp [Array.getElem?_replicate] at h; split at h <;> simp at h)
theorem stab_true : Stab (fun _ _ => True) := fun _ _ _ _ _ => trivial
theorem pure_end {p : Value → World → Prop} {f : Value → Act} {a : Act} {v : Value} {w0 : World} (w' : World) (h1 : a = f v) (h2 : p v w') (h3 : w0 = w' := by rfl) : (∃ v, a = f v ∧ ∃ w0, p v w0) ∧ w0 = w' := ⟨⟨v, h1, w', h2⟩, h3⟩
/-- The same over a list of properties; behind the store each property is known of some world. -/
theorem wp_region_SL {a0 : Act} {w : World} {id : Nat} (s al m n : Nat) (hm : P.follows .mixedOrders = true) (L : List (Value → World → Prop)) (Post : Value → World → Prop) (hms : ops.size = m)
    (hsl : decide (s < ops.size) = true) (hnone : noneB ops s = true) (hap : apartB ops ops.size = true) (hb : backW ops = true) (hal : waits ops s al = true) (hne : (al == s) = false) (hin : insideS ops s n = true) (hsz : a0.tmps.size = n)
    (hstab : StabL L) (hss : waits ops s s = false)
    (hop : ∀ (a : Act) (w' : World), Ext w w' → (∀ t, writesB ops ops.size t = false → sl a t = sl a0 t) →
      AllBelow (fun i => i ≠ s → waits ops i s = false → (∀ j, waits ops i j = true → VL L j (slo a (dstAt ops j)) w') → wpOp P ops Q i (OpK ops (VL L) a w' i) a w') m)
    (hst : ∀ (a : Act) (w' : World), Ext w w' → (∀ t, writesB ops ops.size t = false → sl a t = sl a0 t) → (∀ j, waits ops s j = true → VL L j (slo a (dstAt ops j)) w') →
      wpOp P ops Q s (fun a'' w'' => a'' = a ∧ Post (slo a (dstAt ops al)) w'') a w')
    (hop2 : ∀ (a : Act) (w' : World), (∀ t, writesB ops ops.size t = false → sl a t = sl a0 t) →
      AllBelow (fun i => i ≠ s → waits ops s i = false → (∀ j, j ≠ s → waits ops i j = true → ∃ w0, VL L j (slo a (dstAt ops j)) w0) → wpOp P ops Q i (fun a'' w'' => (∃ v, a'' = a.put (dstAt ops i) v ∧ ∃ w0, VL L i v w0) ∧ w'' = w') a w') m)
    (hfin : ∀ (X : Nat → Value) (w' : World), Post (X al) w' → AllBelow (fun j => j ≠ s → ∃ w0, VL L j (X j) w0) m → Q .normal (fillA ops a0 X m) w') :
    (Code.region id ops true).wp P Q a0 w := by
  subst hms
  exact wp_region_S s al n hm (VL L) (fun i v => ∃ w0, VL L i v w0) Post hsl hnone hap hb hal hne hin hsz (fun i v w w' h hE => stab_at L hstab i v w w' h hE) (fun _ _ w h => ⟨w, h⟩) hss
    (fun i hi his hw a w' hE hA hp => allBelow (hop a w' hE hA) i hi his hw hp) hst (fun i hi his hw a w' hA hp => allBelow (hop2 a w' hA) i hi his hw hp)
    (fun X w' hP hX => hfin X w' hP (by
      have : ∀ k, k ≤ ops.size → AllBelow (fun j => j ≠ s → ∃ w0, VL L j (X j) w0) k := by
        intro k
        induction k with
        | zero => intro _; trivial
        | succ k ih => intro hk; exact ⟨ih (by omega), fun h => hX k (by omega) h⟩
      exact this _ (Nat.le_refl _)))
end
end Go.Proofs.Ytkgbilbicdiadaa
