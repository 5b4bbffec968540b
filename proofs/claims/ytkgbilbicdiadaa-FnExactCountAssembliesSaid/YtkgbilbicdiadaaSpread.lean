/- Plain law on sets of numbers that are closed by rounds: after as many rounds as there are numbers nothing more comes in (no program in sight). No condition. -/
import Derived.Test.YtkgbilbicdiadaaGeo
import Derived.Test.YtkgbilbicdiadaaBits
import Derived.Test.YtkgbilbicdiadaaMembers
set_option linter.unusedSimpArgs false
set_option linter.unusedVariables false
namespace Go.Proofs.Ytkgbilbicdiadaa

def Sub (s t : Nat) : Prop := ∀ i, s.testBit i = true → t.testBit i = true
theorem Sub.refl (s : Nat) : Sub s s := fun _ h => h
theorem Sub.trans {s t u : Nat} (h : Sub s t) (g : Sub t u) : Sub s u := fun i hi => g i (h i hi)
theorem sub_or (s t : Nat) : Sub s (s ||| t) := fun i h => by simp [Nat.testBit_or, h]
theorem bit_lt {s n i : Nat} (hs : s < 2 ^ n) (h : s.testBit i = true) : i < n := by
  rcases Nat.lt_or_ge i n with hlt | hge
  · exact hlt
  · rw [Nat.testBit_lt_two_pow (Nat.lt_of_lt_of_le hs (Nat.pow_le_pow_right (by decide) hge))] at h
    cases h
theorem filter_imp {p q : Nat → Bool} (h : ∀ i, p i = true → q i = true) : ∀ l : List Nat, (l.filter p).Sublist (l.filter q)
  | [] => List.Sublist.slnil
  | x :: t => by
    have ih := filter_imp h t
    cases e : p x with
    | true => rw [List.filter_cons_of_pos e, List.filter_cons_of_pos (h x e)]; exact ih.cons_cons x
    | false =>
      rw [List.filter_cons_of_neg (by simp [e])]
      cases e2 : q x with
      | true => rw [List.filter_cons_of_pos e2]; exact ih.cons x
      | false => rw [List.filter_cons_of_neg (by simp [e2])]; exact ih
theorem bits_count {s t n : Nat} (hs : s < 2 ^ n) (ht : t < 2 ^ n) (h : Sub s t) (hne : t ≠ s) : (memN s n).length < (memN t n).length := by
  have h1 : (memN s n).Sublist (memN t n) := filter_imp (fun i hi => h i hi) _
  rcases Nat.lt_or_ge (memN s n).length (memN t n).length with hlt | hge
  · exact hlt
  · have h2 := h1.eq_of_length_le hge
    refine absurd (Nat.eq_of_testBit_eq fun i => ?_) hne
    have h3 : i ∈ memN s n ↔ i ∈ memN t n := by rw [h2]
    rw [memN_mem, memN_mem] at h3
    cases e1 : s.testBit i with
    | true => exact h i e1
    | false =>
      cases e2 : t.testBit i with
      | false => rfl
      | true =>
        have := (h3.2 ⟨bit_lt ht e2, e2⟩).2
        rw [e1] at this
        cases this
/-- f takes in what R reaches, and nothing else. -/
structure Closing (n : Nat) (R : Nat → Nat → Prop) (f : Nat → Nat) : Prop where
  infl : ∀ s, s < 2 ^ n → Sub s (f s)
  bound : ∀ s, s < 2 ^ n → f s < 2 ^ n
  sound : ∀ (C : Nat → Prop), (∀ i j, C i → R i j → C j) → ∀ s, s < 2 ^ n → (∀ i, s.testBit i = true → C i) → ∀ i, (f s).testBit i = true → C i
  fix : ∀ s, s < 2 ^ n → f s = s → ∀ i j, s.testBit i = true → R i j → s.testBit j = true
theorem Closing.it_lt {n : Nat} {R : Nat → Nat → Prop} {f : Nat → Nat} (h : Closing n R f) {s : Nat} (hs : s < 2 ^ n) : ∀ k, it f k s < 2 ^ n
  | 0 => hs
  | k + 1 => h.bound _ (h.it_lt hs k)
theorem Closing.it_sub {n : Nat} {R : Nat → Nat → Prop} {f : Nat → Nat} (h : Closing n R f) {s : Nat} (hs : s < 2 ^ n) : ∀ k, Sub s (it f k s)
  | 0 => Sub.refl s
  | k + 1 => (h.it_sub hs k).trans (h.infl _ (h.it_lt hs k))
theorem Closing.it_sound {n : Nat} {R : Nat → Nat → Prop} {f : Nat → Nat} (h : Closing n R f) {s : Nat} (hs : s < 2 ^ n) (C : Nat → Prop) (hC : ∀ i j, C i → R i j → C j) (h0 : ∀ i, s.testBit i = true → C i) : ∀ k i, (it f k s).testBit i = true → C i
  | 0 => h0
  | k + 1 => h.sound C hC _ (h.it_lt hs k) (h.it_sound hs C hC h0 k)
theorem Closing.stops {n : Nat} {R : Nat → Nat → Prop} {f : Nat → Nat} (h : Closing n R f) {s : Nat} (hs : s < 2 ^ n) (h0 : s ≠ 0) : f (it f n s) = it f n s := by
  have key : ∀ k, f (it f k s) = it f k s ∨ k + 1 ≤ (memN (it f k s) n).length := by
    intro k
    induction k with
    | zero =>
      refine .inr ?_
      obtain ⟨i, hi⟩ := Nat.exists_testBit_of_ne_zero h0
      exact List.length_pos_of_mem (memN_mem.2 ⟨bit_lt hs hi, hi⟩)
    | succ k ih =>
      by_cases e : f (it f k s) = it f k s
      · refine .inl ?_
        show f (f (it f k s)) = f (it f k s)
        rw [e, e]
      · rcases ih with ih | ih
        · exact absurd ih e
        · refine .inr ?_
          have := bits_count (h.it_lt hs k) (h.bound _ (h.it_lt hs k)) (h.infl _ (h.it_lt hs k)) e
          show k + 1 + 1 ≤ (memN (f (it f k s)) n).length
          omega
  rcases key n with e | e
  · exact e
  · have := memN_length (it f n s) n
    omega
/-- What the rounds hold: whatever every closed set holds. -/
theorem Closing.iff {n : Nat} {R : Nat → Nat → Prop} {f : Nat → Nat} (h : Closing n R f) {s : Nat} (hs : s < 2 ^ n) (h0 : s ≠ 0) (i : Nat) :
    (it f n s).testBit i = true ↔ ∀ C : Nat → Prop, (∀ i j, C i → R i j → C j) → (∀ i, s.testBit i = true → C i) → C i :=
  ⟨fun hi C hC hs0 => h.it_sound hs C hC hs0 n i hi, fun hi => hi _ (fun a b ha hab => h.fix _ (h.it_lt hs n) (h.stops hs h0) a b ha hab) (h.it_sub hs n)⟩
theorem Closing.same {n : Nat} {R : Nat → Nat → Prop} {f g : Nat → Nat} (h : Closing n R f) (k : Closing n R g) {s : Nat} (hs : s < 2 ^ n) (h0 : s ≠ 0) : it f n s = it g n s :=
  Nat.eq_of_testBit_eq fun i => by rw [Bool.eq_iff_iff, h.iff hs h0, k.iff hs h0]

/-- One round over the first k leads: where one end of a lead is in, both are. -/
def spreadTo (E : List P2) : Nat → Nat → Nat
  | 0, s => s
  | k + 1, s => if (spreadTo E k s).testBit (at2 E k).1.toNat = true ∨ (spreadTo E k s).testBit (at2 E k).2.toNat = true then spreadTo E k s ||| (2 ^ (at2 E k).1.toNat ||| 2 ^ (at2 E k).2.toNat) else spreadTo E k s
def joinedE (E : List P2) (i j : Nat) : Prop := ∃ k, k < E.length ∧ (((at2 E k).1.toNat = i ∧ (at2 E k).2.toNat = j) ∨ ((at2 E k).1.toNat = j ∧ (at2 E k).2.toNat = i))
theorem joinedE_symm {E : List P2} {i j : Nat} (h : joinedE E i j) : joinedE E j i := by
  obtain ⟨k, hk, h⟩ := h
  exact ⟨k, hk, h.symm⟩
theorem spread_sub (E : List P2) (s : Nat) : ∀ k, Sub s (spreadTo E k s)
  | 0 => Sub.refl s
  | k + 1 => by
    simp only [spreadTo]
    split
    · exact (spread_sub E s k).trans (sub_or _ _)
    · exact spread_sub E s k
theorem spread_lt {E : List P2} {n s : Nat} (hs : s < 2 ^ n) : ∀ k, (∀ j : Nat, j < k → (at2 E j).1.toNat < n ∧ (at2 E j).2.toNat < n) → spreadTo E k s < 2 ^ n
  | 0, _ => hs
  | k + 1, h => by
    have ih := spread_lt hs k fun j hj => h j (by omega)
    have h1 := h k (by omega)
    simp only [spreadTo]
    split
    · exact Nat.or_lt_two_pow ih (Nat.or_lt_two_pow (Nat.pow_lt_pow_right (by decide) h1.1) (Nat.pow_lt_pow_right (by decide) h1.2))
    · exact ih
theorem spread_sound {E : List P2} {C : Nat → Prop} (hC : ∀ i j, C i → joinedE E i j → C j) {s : Nat} (hs : ∀ i, s.testBit i = true → C i) : ∀ k, k ≤ E.length → ∀ i, (spreadTo E k s).testBit i = true → C i
  | 0, _ => hs
  | k + 1, hk => by
    have ih := spread_sound hC hs k (by omega)
    have hj : joinedE E (at2 E k).1.toNat (at2 E k).2.toNat := ⟨k, by omega, .inl ⟨rfl, rfl⟩⟩
    simp only [spreadTo]
    split
    · rename_i ho
      have hb : C (at2 E k).1.toNat ∧ C (at2 E k).2.toNat := by
        rcases ho with ho | ho
        · exact ⟨ih _ ho, hC _ _ (ih _ ho) hj⟩
        · exact ⟨hC _ _ (ih _ ho) (joinedE_symm hj), ih _ ho⟩
      intro i hi
      rw [Nat.testBit_or, Nat.testBit_or, Nat.testBit_two_pow, Nat.testBit_two_pow] at hi
      simp only [Bool.or_eq_true, decide_eq_true_eq] at hi
      rcases hi with hi | hi | hi
      · exact ih i hi
      · rw [← hi]; exact hb.1
      · rw [← hi]; exact hb.2
    · exact ih
theorem spread_end {E : List P2} {s : Nat} : ∀ k, spreadTo E k s = s → ∀ j : Nat, j < k → (s.testBit (at2 E j).1.toNat = true ↔ s.testBit (at2 E j).2.toNat = true)
  | 0, _, _, hj => absurd hj (by omega)
  | k + 1, h, j, hj => by
    have e : spreadTo E k s = s := by
      refine Nat.eq_of_testBit_eq fun i => ?_
      rw [Bool.eq_iff_iff]
      refine ⟨fun hi => ?_, spread_sub E s k i⟩
      have h1 : Sub (spreadTo E k s) (spreadTo E (k + 1) s) := by
        simp only [spreadTo]
        split
        · exact sub_or _ _
        · exact Sub.refl _
      rw [← h]
      exact h1 i hi
    rcases Nat.lt_or_ge j k with hlt | hge
    · exact spread_end k e j hlt
    · have : j = k := by omega
      subst this
      simp only [spreadTo, e] at h
      split at h
      · have h1 : (s ||| (2 ^ (at2 E j).1.toNat ||| 2 ^ (at2 E j).2.toNat)).testBit (at2 E j).1.toNat = true := by simp [Nat.testBit_or, Nat.testBit_two_pow]
        have h2 : (s ||| (2 ^ (at2 E j).1.toNat ||| 2 ^ (at2 E j).2.toNat)).testBit (at2 E j).2.toNat = true := by simp [Nat.testBit_or, Nat.testBit_two_pow]
        rw [h] at h1 h2
        rw [h1, h2]
      · rename_i hn
        rw [not_or] at hn
        exact ⟨fun h => absurd h hn.1, fun h => absurd h hn.2⟩
theorem spread_closing {E : List P2} {n : Nat} (h : ∀ j : Nat, j < E.length → (at2 E j).1.toNat < n ∧ (at2 E j).2.toNat < n) : Closing n (joinedE E) (spreadTo E E.length) where
  infl s _ := spread_sub E s _
  bound s hs := spread_lt hs _ h
  sound C hC s _ h0 := spread_sound hC h0 _ (Nat.le_refl _)
  fix s _ e i j hi hij := by
    obtain ⟨k, hk, hij⟩ := hij
    have := spread_end _ e k hk
    rcases hij with ⟨rfl, rfl⟩ | ⟨rfl, rfl⟩
    · exact this.1 hi
    · exact this.2 hi
/-- All nodes hang together. -/
def Whole (E : List P2) (n : Nat) : Prop := ∀ C : Nat → Prop, (∀ i j, C i → joinedE E i j → C j) → C 0 → ∀ i, i < n → C i
theorem whole_spread {E : List P2} {n : Nat} (hn : 0 < n) (h : ∀ j : Nat, j < E.length → (at2 E j).1.toNat < n ∧ (at2 E j).2.toNat < n) : (memN (it (spreadTo E E.length) n 1) n).length = n ↔ Whole E n := by
  have hc := spread_closing h
  have h1 : (1 : Nat) < 2 ^ n := Nat.one_lt_two_pow (by omega)
  have hb : ∀ i, (1 : Nat).testBit i = true ↔ i = 0 := fun i => by
    have : (1 : Nat) = 2 ^ 0 := rfl
    rw [this, Nat.testBit_two_pow]
    simp [eq_comm]
  constructor
  · intro hl C hC h0 i hi
    have h2 : memN (it (spreadTo E E.length) n 1) n = List.range n := (List.filter_sublist).eq_of_length (by rw [List.length_range]; exact hl)
    have h3 : i ∈ memN (it (spreadTo E E.length) n 1) n := by rw [h2]; exact List.mem_range.2 hi
    exact (hc.iff h1 (by decide) i).1 (memN_mem.1 h3).2 C hC fun i hi => by rw [(hb i).1 hi]; exact h0
  · intro hw
    have h2 : memN (it (spreadTo E E.length) n 1) n = List.range n := by
      refine List.filter_eq_self.2 fun i hi => ?_
      exact (hc.iff h1 (by decide) i).2 fun C hC h0 => hw C hC (h0 0 ((hb 0).2 rfl)) i (List.mem_range.1 hi)
    rw [h2, List.length_range]
/-- The numbers of the parts, as they are joined lead by lead. -/
def uniteL (l : List Int) (a b : Int) : List Int := l.map fun x => if x = max a b then min a b else x
def partsTo (E : List P2) (n : Nat) : Nat → List Int
  | 0 => (List.range n).map fun i : Nat => (i : Int)
  | k + 1 => uniteL (partsTo E n k) ((partsTo E n k).getD (at2 E k).1.toNat 0) ((partsTo E n k).getD (at2 E k).2.toNat 0)
theorem parts_length (E : List P2) (n : Nat) : ∀ k, (partsTo E n k).length = n
  | 0 => by simp [partsTo]
  | k + 1 => by simp [partsTo, uniteL, parts_length E n k]
theorem unite_get {l : List Int} {a b : Int} {i : Nat} (hi : i < l.length) : (uniteL l a b).getD i 0 = if l.getD i 0 = max a b then min a b else l.getD i 0 := by
  simp [uniteL, hi]
theorem parts_facts {E : List P2} {n : Nat} (hn : 0 < n) : ∀ k, k ≤ E.length → (∀ j, j < k → (at2 E j).1.toNat < n ∧ (at2 E j).2.toNat < n) →
    (partsTo E n k).getD 0 0 = 0 ∧ (∀ i, i < n → 0 ≤ (partsTo E n k).getD i 0) ∧ (∀ j, j < k → (partsTo E n k).getD (at2 E j).1.toNat 0 = (partsTo E n k).getD (at2 E j).2.toNat 0) ∧
    ∀ C : Nat → Prop, (∀ i j, C i → joinedE E i j → C j) → ∀ i j, i < n → j < n → (partsTo E n k).getD i 0 = (partsTo E n k).getD j 0 → (C i ↔ C j)
  | 0, _, _ => by
    have e : ∀ i, i < n → (partsTo E n 0).getD i 0 = (i : Int) := fun i hi => by simp [partsTo, hi]
    refine ⟨by rw [e 0 hn]; rfl, fun i hi => by rw [e i hi]; omega, fun j hj => absurd hj (by omega), fun C hC i j hi hj q => ?_⟩
    rw [e i hi, e j hj] at q
    have : i = j := by omega
    rw [this]
  | k + 1, hk, h => by
    obtain ⟨h1, h2, h3, h4⟩ := parts_facts hn k (by omega) fun j hj => h j (by omega)
    have hl := parts_length E n k
    have hu := h k (by omega)
    obtain ⟨a, ha⟩ : ∃ a, (partsTo E n k).getD (at2 E k).1.toNat 0 = a := ⟨_, rfl⟩
    obtain ⟨b, hb⟩ : ∃ b, (partsTo E n k).getD (at2 E k).2.toNat 0 = b := ⟨_, rfl⟩
    have a0 := h2 _ hu.1
    have b0 := h2 _ hu.2
    have e : ∀ i, i < n → (partsTo E n (k + 1)).getD i 0 = if (partsTo E n k).getD i 0 = max a b then min a b else (partsTo E n k).getD i 0 := fun i hi => by
      show (uniteL (partsTo E n k) ((partsTo E n k).getD (at2 E k).1.toNat 0) ((partsTo E n k).getD (at2 E k).2.toNat 0)).getD i 0 = _
      rw [ha, hb, unite_get (by omega)]
    rw [ha] at a0
    rw [hb] at b0
    refine ⟨?_, fun i hi => ?_, fun j hj => ?_, fun C hC i j hi hj q => ?_⟩
    · rw [e 0 hn, h1]
      split <;> omega
    · have := h2 i hi
      rw [e i hi]
      split <;> omega
    · have hj' := h j (by omega)
      rw [e _ hj'.1, e _ hj'.2]
      rcases Nat.lt_or_ge j k with hlt | hge
      · rw [h3 j hlt]
      · have : j = k := by omega
        subst this
        rw [ha, hb]
        split <;> split <;> omega
    · have hab : ∀ x y, x < n → y < n → (partsTo E n k).getD x 0 = a → (partsTo E n k).getD y 0 = b → (C x ↔ C y) := by
        intro x y hx hy hxa hyb
        have g1 := h4 C hC x (at2 E k).1.toNat hx hu.1 (by rw [hxa, ha])
        have g2 := h4 C hC y (at2 E k).2.toNat hy hu.2 (by rw [hyb, hb])
        have hj : joinedE E (at2 E k).1.toNat (at2 E k).2.toNat := ⟨k, by omega, .inl ⟨rfl, rfl⟩⟩
        exact g1.trans (Iff.trans ⟨fun c => hC _ _ c hj, fun c => hC _ _ c (joinedE_symm hj)⟩ g2.symm)
      rw [e i hi, e j hj] at q
      by_cases q1 : (partsTo E n k).getD i 0 = max a b <;> by_cases q2 : (partsTo E n k).getD j 0 = max a b
      · exact h4 C hC i j hi hj (by rw [q1, q2])
      · rw [if_pos q1, if_neg q2] at q
        rcases Int.le_total a b with hle | hle
        · have z1 : (partsTo E n k).getD i 0 = b := by omega
          have z2 : (partsTo E n k).getD j 0 = a := by omega
          exact (hab j i hj hi z2 z1).symm
        · have z1 : (partsTo E n k).getD i 0 = a := by omega
          have z2 : (partsTo E n k).getD j 0 = b := by omega
          exact hab i j hi hj z1 z2
      · rw [if_neg q1, if_pos q2] at q
        rcases Int.le_total a b with hle | hle
        · have z1 : (partsTo E n k).getD i 0 = a := by omega
          have z2 : (partsTo E n k).getD j 0 = b := by omega
          exact hab i j hi hj z1 z2
        · have z1 : (partsTo E n k).getD i 0 = b := by omega
          have z2 : (partsTo E n k).getD j 0 = a := by omega
          exact (hab j i hj hi z2 z1).symm
      · rw [if_neg q1, if_neg q2] at q
        exact h4 C hC i j hi hj q
theorem whole_parts {E : List P2} {n : Nat} (hn : 0 < n) (h : ∀ j : Nat, j < E.length → (at2 E j).1.toNat < n ∧ (at2 E j).2.toNat < n) : (∀ i, i < n → (partsTo E n E.length).getD i 0 = 0) ↔ Whole E n := by
  obtain ⟨h1, _, h3, h4⟩ := parts_facts hn E.length (Nat.le_refl _) h
  constructor
  · intro hz C hC h0 i hi
    exact (h4 C hC 0 i hn hi (by rw [h1, hz i hi])).1 h0
  · intro hw
    refine hw (fun i => (partsTo E n E.length).getD i 0 = 0) (fun i j hi hij => ?_) h1
    obtain ⟨k, hk, hij⟩ := hij
    have := h3 k hk
    rcases hij with ⟨rfl, rfl⟩ | ⟨rfl, rfl⟩
    · rw [← this]; exact hi
    · rw [this]; exact hi
end Go.Proofs.Ytkgbilbicdiadaa
