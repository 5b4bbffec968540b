/- Plain law on assemblies: a set of panes hangs together just if there is an order in which it can be set (no program in sight). No condition. -/
import Derived.Test.YtabgcpoaepafjaaFirst
import Derived.Test.YtabgcpoaepafjaaCountS
import Derived.Test.YtabgcpoaepafjaaLoose
set_option linter.unusedSimpArgs false
set_option linter.unusedVariables false
namespace Go.Proofs.Ytabgcpoaepafjaa

/-- A set that hangs together. -/
def Jd (b : Nat → Nat → Bool) (s : Nat) : Prop := ∀ C : Nat → Prop, (∀ i j, s.testBit i = true → s.testBit j = true → b i j = true → C i → C j) → ∀ i j, s.testBit i = true → s.testBit j = true → C i → C j
theorem pow_one {f i : Nat} (h : (2 ^ f).testBit i = true) : i = f := by
  rw [Nat.testBit_two_pow] at h
  exact (of_decide_eq_true h).symm
theorem joined_jd {b : Nat → Nat → Bool} {s n : Nat} (hb : ∀ a c, b a c = b c a) (h0 : s ≠ 0) (hs : s < 2 ^ n) : joinedB b s n = true ↔ Jd b s := by
  obtain ⟨l1, l2, _⟩ := low_facts n s h0 hs
  have hc := reach_closing b s n
  have hp : 2 ^ lowOf s n < 2 ^ n := Nat.pow_lt_pow_right (by decide) l2
  have hp0 : 2 ^ lowOf s n ≠ 0 := Nat.ne_of_gt (Nat.two_pow_pos _)
  unfold joinedB
  rw [beq_iff_eq]
  constructor
  · intro e C hC
    have all : ∀ D : Nat → Prop, (∀ i j, s.testBit i = true → s.testBit j = true → b i j = true → D i → D j) → D (lowOf s n) → ∀ j, s.testBit j = true → D j := fun D hD hl j hj => by
      have hj2 : (it (reachF b s n n) n (2 ^ lowOf s n)).testBit j = true := by rw [e]; exact hj
      rw [hc.iff hp hp0] at hj2
      exact (hj2 (fun x => s.testBit x = true ∧ D x) (fun x y hx hxy => ⟨hxy.2.2.1, hD x y hx.1 hxy.2.2.1 hxy.2.2.2 hx.2⟩) fun i hi => by rw [pow_one hi]; exact ⟨l1, hl⟩).2
    intro i j hi hj hCi
    by_cases hl : C (lowOf s n)
    · exact all C hC hl j hj
    · exact absurd hCi (all (fun x => ¬ C x) (fun x y hx hy hxy hnx hCy => hnx (hC y x hy hx (by rw [hb]; exact hxy) hCy)) hl i hi)
  · intro h
    refine sub_both (fun i hi => ?_) (fun i hi => ?_)
    · exact hc.it_sound hp (fun x => s.testBit x = true) (fun _ _ _ hxy => hxy.2.2.1) (fun i hi => by rw [pow_one hi]; exact l1) n i hi
    · rw [hc.iff hp hp0]
      intro C hC h1
      exact h C (fun x y hx hy hxy hx2 => hC x y hx2 ⟨bit_lt hs hx, bit_lt hs hy, hy, hxy⟩) (lowOf s n) i l1 hi (h1 _ (by simp))
theorem Jd.one (b : Nat → Nat → Bool) (f : Nat) : Jd b (2 ^ f) := fun C _ i j hi hj h => by
  rw [pow_one hj]
  rw [pow_one hi] at h
  exact h
theorem Jd.more {b : Nat → Nat → Bool} (hb : ∀ a c, b a c = b c a) {s f i0 : Nat} (h : Jd b s) (hi0 : s.testBit i0 = true) (hbi : b i0 f = true) : Jd b (s ||| 2 ^ f) := by
  have all : ∀ D : Nat → Prop, (∀ i j, (s ||| 2 ^ f).testBit i = true → (s ||| 2 ^ f).testBit j = true → b i j = true → D i → D j) → D i0 → ∀ j, (s ||| 2 ^ f).testBit j = true → D j := fun D hD hd j hj => by
    have hin : ∀ x, s.testBit x = true → (s ||| 2 ^ f).testBit x = true := fun x hx => or_bit.2 (.inl hx)
    rcases or_bit.1 hj with hj | rfl
    · exact h D (fun x y hx hy => hD x y (hin x hx) (hin y hy)) i0 j hi0 hj hd
    · exact hD i0 _ (hin i0 hi0) (or_bit.2 (.inr rfl)) hbi hd
  intro C hC i j hi hj hCi
  by_cases h0 : C i0
  · exact all C hC h0 j hj
  · exact absurd hCi (all (fun x => ¬ C x) (fun x y hx hy hxy hnx hCy => hnx (hC y x hy hx (by rw [hb]; exact hxy) hCy)) h0 i hi)
/-- An order in which panes can be set. -/
inductive Gr (b : Nat → Nat → Bool) : List Nat → Prop
  | one (f : Nat) : Gr b [f]
  | snoc {l : List Nat} {f : Nat} : Gr b l → f ∉ l → (∃ i, i ∈ l ∧ b i f = true) → Gr b (l ++ [f])
section
variable {b : Nat → Nat → Bool} {l : List Nat}
theorem Gr.jd (hb : ∀ a c, b a c = b c a) (h : Gr b l) : Jd b (maskL l) := by
  induction h with
  | one f => rw [maskL_one]; exact Jd.one b f
  | snoc _ _ hi ih =>
    obtain ⟨i, h1, h2⟩ := hi
    rw [maskL_snoc]
    exact ih.more hb (maskL_bit.2 h1) h2
theorem Gr.nodup (h : Gr b l) : l.Nodup := by
  induction h with
  | one f => simp
  | snoc _ hf _ ih =>
    rw [List.nodup_append]
    exact ⟨ih, by simp, fun a ha c hc => by simp at hc; subst hc; intro e; exact hf (e ▸ ha)⟩
theorem Gr.pos (h : Gr b l) : 0 < l.length := by cases h <;> simp
theorem Gr.mask (h : Gr b l) : maskL l ≠ 0 := fun e => by
  have := h.pos
  have h2 := (maskL_bit (l := l)).2 (List.getElem_mem this)
  rw [e, Nat.zero_testBit] at h2
  cases h2
theorem Gr.step (h : Gr b l) : ∀ j, j < l.length → j = 0 ∨ ∃ i, i < j ∧ b (l.getD i 0) (l.getD j 0) = true := by
  induction h with
  | one f => intro j hj; simp at hj; exact .inl hj
  | @snoc l f hl hf hi ih =>
    intro j hj
    rw [List.length_append] at hj
    have left : ∀ i, i < l.length → (l ++ [f]).getD i 0 = l.getD i 0 := fun i hi => by simp [List.getD, List.getElem?_append_left hi]
    by_cases e : j < l.length
    · rcases ih j e with q | ⟨i, hij, hbi⟩
      · exact .inl q
      · exact .inr ⟨i, hij, by rw [left i (by omega), left j e]; exact hbi⟩
    · have ej : j = l.length := by simp at hj; omega
      obtain ⟨x, hx, hbx⟩ := hi
      obtain ⟨i, hil, hix⟩ := List.getElem_of_mem hx
      refine .inr ⟨i, by omega, ?_⟩
      rw [left i hil, ej]
      have e1 : l.getD i 0 = x := by simp [List.getD, hil, hix]
      have e2 : (l ++ [f]).getD l.length 0 = f := by simp [List.getD]
      rw [e1, e2]
      exact hbx
theorem Jd.next {s : Nat} (h : Jd b s) (hl : ∀ x, x ∈ l → s.testBit x = true) {r : Nat} (hr : r ∈ l) {j : Nat} (hj : s.testBit j = true) (hjl : j ∉ l) : ∃ f, s.testBit f = true ∧ f ∉ l ∧ ∃ i, i ∈ l ∧ b i f = true :=
  Classical.byContradiction fun hn => hjl (h (fun x => x ∈ l) (fun x y _ hy hxy hxl => Classical.byContradiction fun hy2 => hn ⟨y, hy, hy2, x, hxl, hxy⟩) r j (hl r hr) hj hr)
theorem head_snoc {l : List Nat} {f r : Nat} (h : l.head? = some r) : (l ++ [f]).head? = some r := by
  cases l with
  | nil => cases h
  | cons a l => exact h
theorem head_mem {l : List Nat} {r : Nat} (h : l.head? = some r) : r ∈ l := List.mem_of_head? h
theorem Jd.order {s n r : Nat} (hs : s < 2 ^ n) (h : Jd b s) (hr : s.testBit r = true) : ∃ l, Gr b l ∧ l.head? = some r ∧ maskL l = s := by
  have go : ∀ (d : Nat) (l : List Nat), Gr b l → l.head? = some r → (∀ x, x ∈ l → s.testBit x = true) → n ≤ l.length + d → ∃ l, Gr b l ∧ l.head? = some r ∧ maskL l = s := by
    intro d
    induction d with
    | zero =>
      intro l hg hh hl hd
      refine ⟨l, hg, hh, sub_both (fun i hi => hl i (maskL_bit.1 hi)) fun i hi => maskL_bit.2 (Classical.byContradiction fun hn => ?_)⟩
      obtain ⟨f, h1, h2, h3⟩ := h.next hl (head_mem hh) hi hn
      have hlen := nodup_lt (hg.snoc h2 h3).nodup (n := n) fun x hx => by
        rcases List.mem_append.1 hx with q | q
        · exact bit_lt hs (hl x q)
        · simp at q; rw [q]; exact bit_lt hs h1
      simp at hlen
      omega
    | succ d ih =>
      intro l hg hh hl hd
      by_cases hall : ∀ j, s.testBit j = true → j ∈ l
      · exact ⟨l, hg, hh, sub_both (fun i hi => hl i (maskL_bit.1 hi)) fun i hi => maskL_bit.2 (hall i hi)⟩
      · obtain ⟨j, hj⟩ := Classical.not_forall.1 hall
        obtain ⟨hj, hjl⟩ := Classical.not_imp.1 hj
        obtain ⟨f, h1, h2, h3⟩ := h.next hl (head_mem hh) hj hjl
        refine ih (l ++ [f]) (hg.snoc h2 h3) (head_snoc hh) (fun x hx => ?_) (by simp; omega)
        rcases List.mem_append.1 hx with q | q
        · exact hl x q
        · simp at q; rw [q]; exact h1
  exact go n [r] (.one r) rfl (fun x hx => by simp at hx; rw [hx]; exact hr) (by simp)
theorem sumTo_pos {g : Nat → Nat} : ∀ n, 0 < sumTo g n ↔ ∃ k, k < n ∧ 0 < g k
  | 0 => by simp [sumTo]
  | n + 1 => by
    simp only [sumTo]
    constructor
    · intro h
      by_cases e : 0 < g n
      · exact ⟨n, by omega, e⟩
      · obtain ⟨k, h1, h2⟩ := (sumTo_pos (g := g) n).1 (by omega)
        exact ⟨k, by omega, h2⟩
    · rintro ⟨k, h1, h2⟩
      by_cases e : k = n
      · rw [e] at h2; omega
      · have := (sumTo_pos (g := g) n).2 ⟨k, by omega, h2⟩
        omega
theorem ways_pos {P n : Nat} (hb : ∀ a c, b a c = b c a) (s : Nat) : s < 2 ^ n → Sub s P → (0 < ways b P n s ↔ s = 0 ∨ Jd b s) := by
  induction s using Nat.strongRecOn with
  | ind s ih =>
    intro hs hP
    by_cases h0 : s = 0
    · subst h0; simp [ways_zero]
    · rw [ways_sum h0 (sub_iff.2 hP), sumTo_pos]
      simp only [h0, false_or]
      constructor
      · rintro ⟨k, hk, ht⟩
        unfold term at ht
        split at ht
        · rename_i hc
          obtain ⟨hbk, hnear⟩ := hc
          have hlt : s - 2 ^ k < s := by have := Nat.two_pow_pos k; omega
          have hr := (ih _ hlt (Nat.lt_trans hlt hs) ((less_sub hbk).trans hP)).1 ht
          have e := or_less hbk
          unfold nearB at hnear
          rw [Bool.or_eq_true, decide_eq_true_eq, List.any_eq_true] at hnear
          rw [← e]
          rcases hr with hr | hr
          · rw [hr, Nat.zero_or]; exact Jd.one b k
          · rcases hnear with q | ⟨i, _, hi⟩
            · rw [q, Nat.zero_or]; exact Jd.one b k
            · rw [Bool.and_eq_true] at hi
              exact hr.more hb hi.1 hi.2
        · omega
      · intro hj
        obtain ⟨r, hr⟩ := Nat.exists_testBit_of_ne_zero h0
        obtain ⟨l, hg, _, hm⟩ := hj.order hs hr
        cases hg with
        | one f =>
          rw [maskL_one] at hm
          have hbf : s.testBit f = true := by rw [← hm]; simp
          refine ⟨f, bit_lt hs hbf, ?_⟩
          have e : s - 2 ^ f = 0 := by omega
          unfold term
          rw [e, if_pos ⟨hbf, by unfold nearB; simp⟩, ways_zero]
          exact Nat.one_pos
        | @snoc l f hl hf hi =>
          rw [maskL_snoc] at hm
          have hbf : (maskL l).testBit f = false := by
            cases q : (maskL l).testBit f with
            | false => rfl
            | true => exact absurd (maskL_bit.1 q) hf
          obtain ⟨e1, e2⟩ := less_or hbf
          rw [hm] at e1 e2
          refine ⟨f, bit_lt hs e2, ?_⟩
          obtain ⟨i, h1, h2⟩ := hi
          have hlt : s - 2 ^ f < s := by have := Nat.two_pow_pos f; omega
          unfold term
          rw [if_pos ⟨e2, by
            unfold nearB
            rw [e1, Bool.or_eq_true, List.any_eq_true]
            have hbi := (maskL_bit (l := l)).2 h1
            refine .inr ⟨i, List.mem_range.2 (bit_lt hs ?_), by rw [hbi, h2]; rfl⟩
            rw [← hm]
            exact or_bit.2 (.inl hbi)⟩]
          refine (ih _ hlt (Nat.lt_trans hlt hs) ((less_sub e2).trans hP)).2 (.inr ?_)
          rw [e1]
          exact hl.jd hb
/-- A set of two panes or more that hangs together: one other than r can be taken away. -/
theorem Jd.last (hb : ∀ a c, b a c = b c a) {s n r : Nat} (hs : s < 2 ^ n) (h : Jd b s) (hr : s.testBit r = true) (hne : s ≠ 2 ^ r) : ∃ f, f ≠ r ∧ s.testBit f = true ∧ joinedB b (s - 2 ^ f) n = true := by
  obtain ⟨l, hg, hh, hm⟩ := h.order hs hr
  cases hg with
  | one f =>
    rw [maskL_one] at hm
    simp at hh
    rw [hh] at hm
    exact absurd hm.symm hne
  | @snoc l f hl hf hi =>
    rw [maskL_snoc] at hm
    have hbf : (maskL l).testBit f = false := by
      cases q : (maskL l).testBit f with
      | false => rfl
      | true => exact absurd (maskL_bit.1 q) hf
    obtain ⟨e1, e2⟩ := less_or hbf
    rw [hm] at e1 e2
    have hrl : r ∈ l := by
      cases l with
      | nil => exact absurd hl.pos (by simp)
      | cons a l => simp at hh; rw [hh]; simp
    refine ⟨f, fun e => hf (by rw [e]; exact hrl), e2, ?_⟩
    have hlt : s - 2 ^ f < s := by have := Nat.two_pow_pos f; have h2 := Nat.ge_two_pow_of_testBit e2; omega
    rw [joined_jd hb (by rw [e1]; exact hl.mask) (Nat.lt_trans hlt hs), e1]
    exact hl.jd hb
theorem loose_facts (hb : ∀ a c, b a c = b c a) {s n : Nat} (hs : s < 2 ^ n) (h0 : s ≠ 0) (h : Jd b s) : ∃ f rest, looseN b s n = f :: rest ∧ f < n ∧ s.testBit f = true ∧ (s ≠ 2 ^ f → Jd b (s - 2 ^ f) ∧ s - 2 ^ f ≠ 0 ∧ rest ≠ []) := by
  have mem : ∀ f, f ∈ looseN b s n ↔ s.testBit f = true ∧ looseP b s n f = true := fun f => by
    unfold looseN
    rw [List.mem_filter, memN_mem]
    exact ⟨fun q => ⟨q.1.2, q.2⟩, fun q => ⟨⟨bit_lt hs q.1, q.1⟩, q.2⟩⟩
  have other : ∀ r, s.testBit r = true → s ≠ 2 ^ r → ∃ f, f ≠ r ∧ f ∈ looseN b s n := fun r hr hne => by
    obtain ⟨f, h1, h2, h3⟩ := h.last hb hs hr hne
    exact ⟨f, h1, (mem f).2 ⟨h2, by unfold looseP; rw [h3, Bool.or_true]⟩⟩
  obtain ⟨r, hr⟩ := Nat.exists_testBit_of_ne_zero h0
  have hne : looseN b s n ≠ [] := fun e => by
    by_cases q : s = 2 ^ r
    · have := (mem r).2 ⟨hr, by unfold looseP; rw [decide_eq_true q]; rfl⟩
      rw [e] at this
      cases this
    · obtain ⟨f, _, hf⟩ := other r hr q
      rw [e] at hf
      cases hf
  cases hL : looseN b s n with
  | nil => exact absurd hL hne
  | cons f rest =>
    obtain ⟨hf, hp⟩ := (mem f).1 (by rw [hL]; simp)
    refine ⟨f, rest, rfl, bit_lt hs hf, hf, fun hn => ?_⟩
    have hz := bit_less_ne hf hn
    have hlt : s - 2 ^ f < s := by have := Nat.two_pow_pos f; omega
    unfold looseP at hp
    rw [decide_eq_false hn, Bool.false_or, joined_jd hb hz (Nat.lt_trans hlt hs)] at hp
    refine ⟨hp, hz, fun e => ?_⟩
    obtain ⟨g, hg1, hg2⟩ := other f hf hn
    rw [hL, e] at hg2
    simp at hg2
    exact hg1 hg2
/-- What the growing list comes to. -/
theorem grow_facts {n o f : Nat} : ∀ (k : Nat) (l : List Nat), Gr b l → l.head? = some f → (∀ x, x ∈ l → x < n ∧ (x ≠ o ∨ x = f)) → n ≤ l.length + k →
    Gr b (growL b n o k l) ∧ (growL b n o k l).head? = some f ∧ (∀ x, x ∈ growL b n o k l → x < n ∧ (x ≠ o ∨ x = f)) ∧ nextTo b o (growL b n o k l) n = none := by
  have can : ∀ {l : List Nat} {g : Nat}, canG b o l g = true → g ≠ o ∧ g ∉ l ∧ ∃ i, i ∈ l ∧ b i g = true := fun {l g} h => by
    unfold canG at h
    simp only [Bool.and_eq_true, decide_eq_true_eq, List.any_eq_true, Bool.not_eq_true', List.contains_eq_mem, decide_eq_false_iff_not] at h
    exact ⟨h.1, h.2.1, h.2.2⟩
  have more : ∀ {l : List Nat} {g : Nat}, (∀ x, x ∈ l → x < n ∧ (x ≠ o ∨ x = f)) → g < n → g ≠ o → ∀ x, x ∈ l ++ [g] → x < n ∧ (x ≠ o ∨ x = f) := fun {l g} hl hg ho x hx => by
    rcases List.mem_append.1 hx with q | q
    · exact hl x q
    · simp at q; rw [q]; exact ⟨hg, .inl ho⟩
  intro k
  induction k with
  | zero =>
    intro l hg hh hl hk
    refine ⟨hg, hh, hl, ?_⟩
    show nextTo b o l n = none
    cases hn : nextTo b o l n with
    | none => rfl
    | some g =>
      obtain ⟨h1, h2, _⟩ := nextTo_some hn
      obtain ⟨c1, c2, c3⟩ := can h2
      have := nodup_lt (hg.snoc c2 c3).nodup (n := n) fun x hx => (more hl h1 c1 x hx).1
      simp at this
      omega
  | succ k ih =>
    intro l hg hh hl hk
    cases hn : nextTo b o l n with
    | none => rw [growL_none hn]; exact ⟨hg, hh, hl, hn⟩
    | some g =>
      obtain ⟨h1, h2, _⟩ := nextTo_some hn
      obtain ⟨c1, c2, c3⟩ := can h2
      rw [growL_some hn]
      exact ih _ (hg.snoc c2 c3) (head_snoc hh) (more hl h1 c1) (by simp; omega)
theorem castN_getD (l : List Nat) (j : Nat) : (castN l).getD j 0 = ((l.getD j 0 : Nat) : Int) := by
  unfold castN
  simp only [List.getD, List.getElem?_map]
  cases l[j]? <;> rfl
theorem face_cast (l : List Nat) (j : Nat) : faceOf (castN l) j = l.getD j 0 := by
  unfold faceOf
  rw [castN_getD]
  omega
theorem isFace_cast {l : List Nat} {n j : Nat} (h : l.getD j 0 < n) : isFace (castN l) n j = true := by
  unfold isFace inR
  rw [castN_getD]
  simp only [Bool.and_eq_true, decide_eq_true_eq]
  omega
/-- The list grown from pane f is an assembly just if the panes hang together. -/
theorem first_asm (hb : ∀ a c, b a c = b c a) {n o f : Nat} (ho : o < n) (hf : f < n) : AsmOk b (isFace (castN (growL b n o n [f])) n) (faceOf (castN (growL b n o n [f]))) n o (castN (growL b n o n [f])).length ↔ f ≠ o ∧ Jd b (panesN n o) := by
  obtain ⟨g1, g2, g3, g4⟩ := grow_facts (b := b) (o := o) (f := f) n [f] (.one f) rfl (fun x hx => by simp at hx; rw [hx]; exact ⟨hf, .inr rfl⟩) (by simp)
  obtain ⟨R, hR⟩ : ∃ R, growL b n o n [f] = R := ⟨_, rfl⟩
  rw [hR] at g1 g2 g3 g4 ⊢
  clear hR
  have hpos := g1.pos
  have hget : ∀ j, j < R.length → R.getD j 0 ∈ R := fun j hj => by simp [List.getD, hj]
  have h0 : R.getD 0 0 = f := by
    cases R with
    | nil => cases g2
    | cons a l => simp at g2; simp [g2]
  rw [castN_length]
  constructor
  · intro h
    have h1 := h.2.2 0 hpos
    rw [face_cast, h0] at h1
    refine ⟨h1, ?_⟩
    have he := (asm_end (m := R.length) ho (fun j => isFace_lt) h.2.1).2 h
    have e2 : maskL R = panesN n o := by
      rw [← he]
      refine sub_both (fun i hi => ?_) fun i hi => ?_
      · obtain ⟨j, hj, e⟩ := List.getElem_of_mem (maskL_bit.1 hi)
        exact (setTo_bit _).2 ⟨j, hj, by rw [face_cast]; simp [List.getD, hj, e]⟩
      · obtain ⟨j, hj, e⟩ := (setTo_bit _).1 hi
        rw [face_cast] at e
        exact maskL_bit.2 (e ▸ hget j hj)
    rw [← e2]
    exact g1.jd hb
  · rintro ⟨hfo, hJ⟩
    have hno : ∀ x, x ∈ R → x < n ∧ x ≠ o := fun x hx => ⟨(g3 x hx).1, (g3 x hx).2.elim id fun e => by rw [e]; exact hfo⟩
    have hin : ∀ x, x ∈ R → (panesN n o).testBit x = true := fun x hx => by
      rw [panes_bit]
      simp [(hno x hx).1, (hno x hx).2]
    have hall : ∀ x, (panesN n o).testBit x = true → x ∈ R := fun x hx => Classical.byContradiction fun hn => by
      obtain ⟨g, k1, k2, k3, k4, k5⟩ := hJ.next hin (head_mem g2) hx hn
      have hgn := bit_lt (panes_lt n o) k1
      have hgo : g ≠ o := fun e => by rw [panes_bit, e] at k1; simp at k1
      have hc := (nextTo_none n).1 g4 g hgn
      unfold canG at hc
      have hy : (decide (g ≠ o) && (!R.contains g && R.any fun i => b i g)) = true := by
        simp only [Bool.and_eq_true, decide_eq_true_eq, List.any_eq_true, Bool.not_eq_true', List.contains_eq_mem, decide_eq_false_iff_not]
        exact ⟨hgo, k2, k3, k4, k5⟩
      rw [hy] at hc
      cases hc
    have hp : R.Perm (memN (panesN n o) n) := (List.perm_ext_iff_of_nodup g1.nodup (memN_nodup _ _)).2 fun x => by
      rw [memN_mem]
      exact ⟨fun q => ⟨(hno x q).1, hin x q⟩, fun q => hall x q.2⟩
    have hlen := hp.length_eq
    rw [panes_count ho] at hlen
    refine ⟨by omega, fun j hj => ⟨isFace_cast (g3 _ (hget j hj)).1, fun i hi e => ?_, ?_⟩, fun j hj => by rw [face_cast]; exact (hno _ (hget j hj)).2⟩
    · rw [face_cast, face_cast] at e
      have := getD_inj g1.nodup (i := i) (j := j) (by omega) hj e
      omega
    · rcases g1.step j hj with q | ⟨i, hi, q⟩
      · exact .inl q
      · exact .inr ⟨i, hi, by rw [face_cast, face_cast]; exact q⟩
end
end Go.Proofs.Ytabgcpoaepafjaa
