/- Walks of a stain written as text, in both forms. Condition (the program's form): the table of powers reads as it was laid. -/
import Derived.Test.YtlpononcpocmoaaDoorFmtInt
import Derived.Test.YtlpononcpocmoaaDoorStain
import Derived.Test.YtlpononcpocmoaaDoorTrack
import Derived.Test.YtlpononcpocmoaaDoorRegR
set_option linter.unusedSimpArgs false
set_option linter.unusedVariables false
namespace Go.Proofs.YtlpononcpocmoaaDoor
open Go.RowKit

def slash : ByteArray := ⟨#[47]⟩
def textB (a b c : Int) : ByteArray := if stainOk a b c then dec a ++ slash ++ dec b ++ slash ++ dec c else ⟨#[]⟩
theorem digs_length : ∀ (m k : Nat), k ≤ m → (digs k).length ≤ k
  | 0, k, h => by
    obtain rfl : k = 0 := by omega
    simp [digs]
  | m + 1, k, h => by
    by_cases hk : k = 0
    · subst hk; simp [digs]
    · have := digs_length m (k / 10) (by omega)
      rw [digs_step hk, List.length_append]
      simp only [List.length_cons, List.length_nil]
      omega
theorem dec_size {n : Int} (h0 : 0 ≤ n) (h1 : n ≤ 1000) : (dec n).size ≤ 1000 := by
  obtain ⟨k, rfl⟩ := Int.eq_ofNat_of_zero_le h0
  by_cases hk : k = 0
  · subst hk
    rw [show (((0 : Nat) : Int)) = 0 from rfl, dec_zero]
    decide
  · rw [dec_pos hk]
    have := digs_length k k (Nat.le_refl _)
    show ((digs k).toArray).size ≤ 1000
    simp
    omega
set_option maxHeartbeats 1000000 in
theorem StainText_any (a b c : Int) (w : World) (htab : Lib.TabIs Tryd.prog w "internal/strconv.uint64pow10" .u64 Lib.pow10Tab) :
    Calls Tryd.prog 7 #[.agg #[.int .i64 a, .int .i64 b, .int .i64 c]] w fun e w' => e = .returned (.string (textB a b c)) ∧ Ext w w' := by
  have HTAB := hide htab
  clear htab
  by_cases hs : stainOk a b c = true
  · have B := stainOk_true hs
    have HV : Hid (textB a b c = dec a ++ slash ++ dec b ++ slash ++ dec c) := hide (by unfold textB; rw [if_pos hs])
    obtain ⟨an, rfl⟩ := Int.eq_ofNat_of_zero_le (show 0 ≤ a by omega)
    obtain ⟨bn, rfl⟩ := Int.eq_ofNat_of_zero_le (show 0 ≤ b by omega)
    obtain ⟨cn, rfl⟩ := Int.eq_ofNat_of_zero_le (show 0 ≤ c by omega)
    
    have za := dec_size (n := (an : Int)) (by omega) (by omega)
    have zb := dec_size (n := (bn : Int)) (by omega) (by omega)
    have zc := dec_size (n := (cn : Int)) (by omega) (by omega)
    go_enter Tryd.func7, Tryd.ntmps7
    go_wp2_with fail
    obtain ⟨w0, hw⟩ : ∃ w1, w1 = (w.alloc (Obj.cells #[Value.int IntKind.i64 an, Value.int IntKind.i64 bn, Value.int IntKind.i64 cn] 25)) := ⟨_, rfl⟩; rw [← hw]; have kT : Tr [(w.heap.size, [.int .i64 (an : Int), .int .i64 (bn : Int), .int .i64 (cn : Int)])] w w0 := (by rw [hw]; exact ⟨by (first | (simp [Bx, CellsAt, go_sem, *]; done) | (simp [Bx, CellsAt, go_sem, *]; omega)), by (repeat (first | exact kE | exact Ext.refl _ | apply Ext.alloc | apply Ext.drewN | apply Ext.drew | apply Ext.set0 | apply Ext.set1 | apply Ext.set2 | apply Ext.set3 | (refine Ext.setk ?_ (by omega) _) | (apply Ext.snoc; assumption)))⟩); have HT := hide kT; clear hw kT; have kT := HT.out; simp only [Tr, Bx, CellsAt, Nat.reduceAdd, Nat.zero_add, and_true] at kT; obtain ⟨⟨kz0, kf0, kc0_0, kc0_1, kc0_2⟩, kE⟩ := kT
    refine (StainOk_any _ _ _ _).mono ?_; rintro e w1 ⟨rfl, hb⟩; have HT := hide (HT.out.ext hb); have Hw1 := hide hb; clear hb; clear kz0 kf0 kc0_0 kc0_1 kc0_2 kE; have kT := HT.out; simp only [Tr, Bx, CellsAt, Nat.reduceAdd, Nat.zero_add, and_true] at kT; obtain ⟨⟨kz0, kf0, kc0_0, kc0_1, kc0_2⟩, kE⟩ := kT
    rw [hs]
    clear hs
    go_wp2_with fail
    apply wp_region_RL 14 19 (by kernel_rfl) (by kernel_rfl) (by kernel_rfl) (by kernel_rfl) (by kernel_rfl) (by kernel_rfl) rfl [fun v _ => v = _, fun v _ => v = _, fun v _ => v = _, fun v _ => v = _, fun v _ => v = _, fun v _ => v = _, fun v _ => v = _, fun v _ => v = _, fun v _ => v = _, fun v _ => v = _, fun v _ => v = _, fun v _ => v = _, fun v _ => v = _, fun v _ => v = _] rfl ⟨stab_eq _, stab_eq _, stab_eq _, stab_eq _, stab_eq _, stab_eq _, stab_eq _, stab_eq _, stab_eq _, stab_eq _, stab_eq _, stab_eq _, stab_eq _, stab_eq _, trivial⟩ ?Xhop ?Xfin
    case Xhop =>
      intro a w' hE hA
      have hc := hE.facts.1
      have hz := hE.facts.2.2
      refine ⟨⟨⟨⟨⟨⟨⟨⟨⟨⟨⟨⟨⟨⟨trivial, ?_⟩, ?_⟩, ?_⟩, ?_⟩, ?_⟩, ?_⟩, ?_⟩, ?_⟩, ?_⟩, ?_⟩, ?_⟩, ?_⟩, ?_⟩, ?_⟩
      · intro hp
        have s1 := hA 1 (by rfl)
        simp [sl] at s1
        clear hp
        refine wpOp_of_list rfl rfl ?_
        go_wp2_with (first | (go_at_call 17; refine (FormatInt_any _ (by omega) (by omega) _ (TabExt HTAB.out (by exact kE.trans hE))).mono ?_; rintro e w8 ⟨rfl, hb8⟩))
        exact ⟨_, rfl, rfl, (by repeat (first | exact kE | exact Ext.refl _ | apply Ext.alloc | apply Ext.drewN | apply Ext.drew | apply Ext.set0 | apply Ext.set1 | apply Ext.set2 | apply Ext.set3 | (refine Ext.setk ?_ (by omega) _) | (apply Ext.snoc; assumption)))⟩
      · intro hp
        have s6 := hp 0 (by rfl)
        change a.tmps.getD 6 undef = _ at s6
        simp at s6
        clear hp
        refine wpOp_of_list rfl rfl ?_
        go_wp2_with (first | (go_at_call 17; refine (FormatInt_any _ (by omega) (by omega) _ (TabExt HTAB.out (by exact kE.trans hE))).mono ?_; rintro e w8 ⟨rfl, hb8⟩))
        exact ⟨_, rfl, rfl, (by repeat (first | exact kE | exact Ext.refl _ | apply Ext.alloc | apply Ext.drewN | apply Ext.drew | apply Ext.set0 | apply Ext.set1 | apply Ext.set2 | apply Ext.set3 | (refine Ext.setk ?_ (by omega) _) | (apply Ext.snoc; assumption)))⟩
      · intro hp
        have s7 := hp 1 (by rfl)
        change a.tmps.getD 7 undef = _ at s7
        simp at s7
        clear hp
        refine wpOp_of_list rfl rfl ?_
        go_wp2_with (first | (go_at_call 17; refine (FormatInt_any _ (by omega) (by omega) _ (TabExt HTAB.out (by exact kE.trans hE))).mono ?_; rintro e w8 ⟨rfl, hb8⟩))
        exact ⟨_, rfl, rfl, (by repeat (first | exact kE | exact Ext.refl _ | apply Ext.alloc | apply Ext.drewN | apply Ext.drew | apply Ext.set0 | apply Ext.set1 | apply Ext.set2 | apply Ext.set3 | (refine Ext.setk ?_ (by omega) _) | (apply Ext.snoc; assumption)))⟩
      · intro hp
        have s8 := hp 2 (by rfl)
        change a.tmps.getD 8 undef = _ at s8
        simp at s8
        clear hp
        refine wpOp_of_list rfl rfl ?_
        go_wp2_with (first | (go_at_call 17; refine (FormatInt_any _ (by omega) (by omega) _ (TabExt HTAB.out (by exact kE.trans hE))).mono ?_; rintro e w8 ⟨rfl, hb8⟩))
        exact ⟨_, rfl, rfl, (by repeat (first | exact kE | exact Ext.refl _ | apply Ext.alloc | apply Ext.drewN | apply Ext.drew | apply Ext.set0 | apply Ext.set1 | apply Ext.set2 | apply Ext.set3 | (refine Ext.setk ?_ (by omega) _) | (apply Ext.snoc; assumption)))⟩
      · intro hp
        have s1 := hA 1 (by rfl)
        simp [sl] at s1
        clear hp
        refine wpOp_of_list rfl rfl ?_
        go_wp2_with (first | (go_at_call 17; refine (FormatInt_any _ (by omega) (by omega) _ (TabExt HTAB.out (by exact kE.trans hE))).mono ?_; rintro e w8 ⟨rfl, hb8⟩))
        exact ⟨_, rfl, rfl, (by repeat (first | exact kE | exact Ext.refl _ | apply Ext.alloc | apply Ext.drewN | apply Ext.drew | apply Ext.set0 | apply Ext.set1 | apply Ext.set2 | apply Ext.set3 | (refine Ext.setk ?_ (by omega) _) | (apply Ext.snoc; assumption)))⟩
      · intro hp
        have s10 := hp 4 (by rfl)
        change a.tmps.getD 10 undef = _ at s10
        simp at s10
        clear hp
        refine wpOp_of_list rfl rfl ?_
        go_wp2_with (first | (go_at_call 17; refine (FormatInt_any _ (by omega) (by omega) _ (TabExt HTAB.out (by exact kE.trans hE))).mono ?_; rintro e w8 ⟨rfl, hb8⟩))
        exact ⟨_, rfl, rfl, (by repeat (first | exact kE | exact Ext.refl _ | apply Ext.alloc | apply Ext.drewN | apply Ext.drew | apply Ext.set0 | apply Ext.set1 | apply Ext.set2 | apply Ext.set3 | (refine Ext.setk ?_ (by omega) _) | (apply Ext.snoc; assumption)))⟩
      · intro hp
        have s11 := hp 5 (by rfl)
        change a.tmps.getD 11 undef = _ at s11
        simp at s11
        clear hp
        refine wpOp_of_list rfl rfl ?_
        go_wp2_with (first | (go_at_call 17; refine (FormatInt_any _ (by omega) (by omega) _ (TabExt HTAB.out (by exact kE.trans hE))).mono ?_; rintro e w8 ⟨rfl, hb8⟩))
        exact ⟨_, rfl, rfl, (by repeat (first | exact kE | exact Ext.refl _ | apply Ext.alloc | apply Ext.drewN | apply Ext.drew | apply Ext.set0 | apply Ext.set1 | apply Ext.set2 | apply Ext.set3 | (refine Ext.setk ?_ (by omega) _) | (apply Ext.snoc; assumption)))⟩
      · intro hp
        have s9 := hp 3 (by rfl)
        change a.tmps.getD 9 undef = _ at s9
        simp at s9
        have s12 := hp 6 (by rfl)
        change a.tmps.getD 12 undef = _ at s12
        simp at s12
        clear hp
        refine wpOp_of_list rfl rfl ?_
        go_wp2_with (first | (go_at_call 17; refine (FormatInt_any _ (by omega) (by omega) _ (TabExt HTAB.out (by exact kE.trans hE))).mono ?_; rintro e w8 ⟨rfl, hb8⟩))
        exact ⟨_, rfl, rfl, (by repeat (first | exact kE | exact Ext.refl _ | apply Ext.alloc | apply Ext.drewN | apply Ext.drew | apply Ext.set0 | apply Ext.set1 | apply Ext.set2 | apply Ext.set3 | (refine Ext.setk ?_ (by omega) _) | (apply Ext.snoc; assumption)))⟩
      · intro hp
        have s13 := hp 7 (by rfl)
        change a.tmps.getD 13 undef = _ at s13
        simp at s13
        clear hp
        refine wpOp_of_list rfl rfl ?_
        go_wp2_with (first | (go_at_call 17; refine (FormatInt_any _ (by omega) (by omega) _ (TabExt HTAB.out (by exact kE.trans hE))).mono ?_; rintro e w8 ⟨rfl, hb8⟩))
        exact ⟨_, rfl, rfl, (by repeat (first | exact kE | exact Ext.refl _ | apply Ext.alloc | apply Ext.drewN | apply Ext.drew | apply Ext.set0 | apply Ext.set1 | apply Ext.set2 | apply Ext.set3 | (refine Ext.setk ?_ (by omega) _) | (apply Ext.snoc; assumption)))⟩
      · intro hp
        have s1 := hA 1 (by rfl)
        simp [sl] at s1
        clear hp
        refine wpOp_of_list rfl rfl ?_
        go_wp2_with (first | (go_at_call 17; refine (FormatInt_any _ (by omega) (by omega) _ (TabExt HTAB.out (by exact kE.trans hE))).mono ?_; rintro e w8 ⟨rfl, hb8⟩))
        exact ⟨_, rfl, rfl, (by repeat (first | exact kE | exact Ext.refl _ | apply Ext.alloc | apply Ext.drewN | apply Ext.drew | apply Ext.set0 | apply Ext.set1 | apply Ext.set2 | apply Ext.set3 | (refine Ext.setk ?_ (by omega) _) | (apply Ext.snoc; assumption)))⟩
      · intro hp
        have s15 := hp 9 (by rfl)
        change a.tmps.getD 15 undef = _ at s15
        simp at s15
        clear hp
        refine wpOp_of_list rfl rfl ?_
        go_wp2_with (first | (go_at_call 17; refine (FormatInt_any _ (by omega) (by omega) _ (TabExt HTAB.out (by exact kE.trans hE))).mono ?_; rintro e w8 ⟨rfl, hb8⟩))
        exact ⟨_, rfl, rfl, (by repeat (first | exact kE | exact Ext.refl _ | apply Ext.alloc | apply Ext.drewN | apply Ext.drew | apply Ext.set0 | apply Ext.set1 | apply Ext.set2 | apply Ext.set3 | (refine Ext.setk ?_ (by omega) _) | (apply Ext.snoc; assumption)))⟩
      · intro hp
        have s16 := hp 10 (by rfl)
        change a.tmps.getD 16 undef = _ at s16
        simp at s16
        clear hp
        refine wpOp_of_list rfl rfl ?_
        go_wp2_with (first | (go_at_call 17; refine (FormatInt_any _ (by omega) (by omega) _ (TabExt HTAB.out (by exact kE.trans hE))).mono ?_; rintro e w8 ⟨rfl, hb8⟩))
        exact ⟨_, rfl, rfl, (by repeat (first | exact kE | exact Ext.refl _ | apply Ext.alloc | apply Ext.drewN | apply Ext.drew | apply Ext.set0 | apply Ext.set1 | apply Ext.set2 | apply Ext.set3 | (refine Ext.setk ?_ (by omega) _) | (apply Ext.snoc; assumption)))⟩
      · intro hp
        have s14 := hp 8 (by rfl)
        change a.tmps.getD 14 undef = _ at s14
        simp at s14
        have s17 := hp 11 (by rfl)
        change a.tmps.getD 17 undef = _ at s17
        simp at s17
        clear hp
        refine wpOp_of_list rfl rfl ?_
        go_wp2_with (first | (go_at_call 17; refine (FormatInt_any _ (by omega) (by omega) _ (TabExt HTAB.out (by exact kE.trans hE))).mono ?_; rintro e w8 ⟨rfl, hb8⟩))
        exact ⟨_, rfl, rfl, (by repeat (first | exact kE | exact Ext.refl _ | apply Ext.alloc | apply Ext.drewN | apply Ext.drew | apply Ext.set0 | apply Ext.set1 | apply Ext.set2 | apply Ext.set3 | (refine Ext.setk ?_ (by omega) _) | (apply Ext.snoc; assumption)))⟩
      · intro hp
        have s18 := hp 12 (by rfl)
        change a.tmps.getD 18 undef = _ at s18
        simp at s18
        clear hp
        refine wpOp_of_list rfl rfl ?_
        go_wp2_with (first | (go_at_call 17; refine (FormatInt_any _ (by omega) (by omega) _ (TabExt HTAB.out (by exact kE.trans hE))).mono ?_; rintro e w8 ⟨rfl, hb8⟩))
        exact ⟨_, rfl, rfl, (by repeat (first | exact kE | exact Ext.refl _ | apply Ext.alloc | apply Ext.drewN | apply Ext.drew | apply Ext.set0 | apply Ext.set1 | apply Ext.set2 | apply Ext.set3 | (refine Ext.setk ?_ (by omega) _) | (apply Ext.snoc; assumption)))⟩
    case Xfin =>
      intro X w7 hE7 hp
      obtain ⟨⟨⟨⟨⟨⟨⟨⟨⟨⟨⟨⟨⟨⟨_, h0⟩, h1⟩, h2⟩, h3⟩, h4⟩, h5⟩, h6⟩, h7⟩, h8⟩, h9⟩, h10⟩, h11⟩, h12⟩, h13⟩ := hp
      change X 0 = _ at h0
      change X 1 = _ at h1
      change X 2 = _ at h2
      change X 3 = _ at h3
      change X 4 = _ at h4
      change X 5 = _ at h5
      change X 6 = _ at h6
      change X 7 = _ at h7
      change X 8 = _ at h8
      change X 9 = _ at h9
      change X 10 = _ at h10
      change X 11 = _ at h11
      change X 12 = _ at h12
      change X 13 = _ at h13
      simp only [List.drop_succ_cons, List.drop_nil]
      refine wpList_nil ?_
      go_simp
      have E7 := hide (kE.trans hE7)
      go_wp2
      go_ret
      exact ⟨by rw [HV.out]; rfl, E7.out⟩
  · have hs' : stainOk a b c = false := by simpa using hs
    have HV : Hid (textB a b c = ⟨#[]⟩) := hide (by unfold textB; rw [hs']; rfl)
    clear hs
    
    go_enter Tryd.func7, Tryd.ntmps7
    go_wp2_with fail
    obtain ⟨w0, hw⟩ : ∃ w1, w1 = (w.alloc (Obj.cells #[Value.int IntKind.i64 a, Value.int IntKind.i64 b, Value.int IntKind.i64 c] 25)) := ⟨_, rfl⟩; rw [← hw]; have kT : Tr [(w.heap.size, [.int .i64 a, .int .i64 b, .int .i64 c])] w w0 := (by rw [hw]; exact ⟨by (first | (simp [Bx, CellsAt, go_sem, *]; done) | (simp [Bx, CellsAt, go_sem, *]; omega)), by (repeat (first | exact kE | exact Ext.refl _ | apply Ext.alloc | apply Ext.drewN | apply Ext.drew | apply Ext.set0 | apply Ext.set1 | apply Ext.set2 | apply Ext.set3 | (refine Ext.setk ?_ (by omega) _) | (apply Ext.snoc; assumption)))⟩); have HT := hide kT; clear hw kT; have kT := HT.out; simp only [Tr, Bx, CellsAt, Nat.reduceAdd, Nat.zero_add, and_true] at kT; obtain ⟨⟨kz0, kf0, kc0_0, kc0_1, kc0_2⟩, kE⟩ := kT
    refine (StainOk_any _ _ _ _).mono ?_; rintro e w1 ⟨rfl, hb⟩; have HT := hide (HT.out.ext hb); have Hw1 := hide hb; clear hb; clear kz0 kf0 kc0_0 kc0_1 kc0_2 kE; have kT := HT.out; simp only [Tr, Bx, CellsAt, Nat.reduceAdd, Nat.zero_add, and_true] at kT; obtain ⟨⟨kz0, kf0, kc0_0, kc0_1, kc0_2⟩, kE⟩ := kT
    rw [hs']
    go_wp2_with fail
    go_ret
    exact ⟨by rw [HV.out]; rfl, by repeat (first | exact kE | exact Ext.refl _ | apply Ext.alloc | apply Ext.drewN | apply Ext.drew | apply Ext.set0 | apply Ext.set1 | apply Ext.set2 | apply Ext.set3 | (refine Ext.setk ?_ (by omega) _) | (apply Ext.snoc; assumption))⟩
set_option maxHeartbeats 1000000 in
theorem sStainText_any (a b c : Int) (w : World) :
    Calls Tryd.prog 5 #[.agg #[.int .i64 a, .int .i64 b, .int .i64 c]] w fun e w' => e = .returned (.string (textB a b c)) ∧ Ext w w' := by
  by_cases hs : stainOk a b c = true
  · have B := stainOk_true hs
    have HV : Hid (textB a b c = dec a ++ slash ++ dec b ++ slash ++ dec c) := hide (by unfold textB; rw [if_pos hs])
    obtain ⟨an, rfl⟩ := Int.eq_ofNat_of_zero_le (show 0 ≤ a by omega)
    obtain ⟨bn, rfl⟩ := Int.eq_ofNat_of_zero_le (show 0 ≤ b by omega)
    obtain ⟨cn, rfl⟩ := Int.eq_ofNat_of_zero_le (show 0 ≤ c by omega)
    
    have za := dec_size (n := (an : Int)) (by omega) (by omega)
    have zb := dec_size (n := (bn : Int)) (by omega) (by omega)
    have zc := dec_size (n := (cn : Int)) (by omega) (by omega)
    go_enter Tryd.func5, Tryd.ntmps5
    go_wp2_with fail
    obtain ⟨w0, hw⟩ : ∃ w1, w1 = (w.alloc (Obj.cells #[Value.int IntKind.i64 an, Value.int IntKind.i64 bn, Value.int IntKind.i64 cn] 25)) := ⟨_, rfl⟩; rw [← hw]; have kT : Tr [(w.heap.size, [.int .i64 (an : Int), .int .i64 (bn : Int), .int .i64 (cn : Int)])] w w0 := (by rw [hw]; exact ⟨by (first | (simp [Bx, CellsAt, go_sem, *]; done) | (simp [Bx, CellsAt, go_sem, *]; omega)), by (repeat (first | exact kE | exact Ext.refl _ | apply Ext.alloc | apply Ext.drewN | apply Ext.drew | apply Ext.set0 | apply Ext.set1 | apply Ext.set2 | apply Ext.set3 | (refine Ext.setk ?_ (by omega) _) | (apply Ext.snoc; assumption)))⟩); have HT := hide kT; clear hw kT; have kT := HT.out; simp only [Tr, Bx, CellsAt, Nat.reduceAdd, Nat.zero_add, and_true] at kT; obtain ⟨⟨kz0, kf0, kc0_0, kc0_1, kc0_2⟩, kE⟩ := kT
    refine (sStainOk_any _ _ _ _).mono ?_; rintro e w1 ⟨rfl, hb⟩; have HT := hide (HT.out.ext hb); have Hw1 := hide hb; clear hb; clear kz0 kf0 kc0_0 kc0_1 kc0_2 kE; have kT := HT.out; simp only [Tr, Bx, CellsAt, Nat.reduceAdd, Nat.zero_add, and_true] at kT; obtain ⟨⟨kz0, kf0, kc0_0, kc0_1, kc0_2⟩, kE⟩ := kT
    rw [hs]
    clear hs
    go_wp2_with fail
    apply wp_region_RL 14 19 (by kernel_rfl) (by kernel_rfl) (by kernel_rfl) (by kernel_rfl) (by kernel_rfl) (by kernel_rfl) rfl [fun v _ => v = _, fun v _ => v = _, fun v _ => v = _, fun v _ => v = _, fun v _ => v = _, fun v _ => v = _, fun v _ => v = _, fun v _ => v = _, fun v _ => v = _, fun v _ => v = _, fun v _ => v = _, fun v _ => v = _, fun v _ => v = _, fun v _ => v = _] rfl ⟨stab_eq _, stab_eq _, stab_eq _, stab_eq _, stab_eq _, stab_eq _, stab_eq _, stab_eq _, stab_eq _, stab_eq _, stab_eq _, stab_eq _, stab_eq _, stab_eq _, trivial⟩ ?Xhop ?Xfin
    case Xhop =>
      intro a w' hE hA
      have hc := hE.facts.1
      have hz := hE.facts.2.2
      refine ⟨⟨⟨⟨⟨⟨⟨⟨⟨⟨⟨⟨⟨⟨trivial, ?_⟩, ?_⟩, ?_⟩, ?_⟩, ?_⟩, ?_⟩, ?_⟩, ?_⟩, ?_⟩, ?_⟩, ?_⟩, ?_⟩, ?_⟩, ?_⟩
      · intro hp
        have s1 := hA 1 (by rfl)
        simp [sl] at s1
        clear hp
        refine wpOp_of_list rfl rfl ?_
        go_wp2_with (first | (go_at_call 16; refine (sFormatInt_any _ (by omega) _).mono ?_; rintro e w8 ⟨rfl, hb8⟩))
        exact ⟨_, rfl, rfl, (by repeat (first | exact kE | exact Ext.refl _ | apply Ext.alloc | apply Ext.drewN | apply Ext.drew | apply Ext.set0 | apply Ext.set1 | apply Ext.set2 | apply Ext.set3 | (refine Ext.setk ?_ (by omega) _) | (apply Ext.snoc; assumption)))⟩
      · intro hp
        have s6 := hp 0 (by rfl)
        change a.tmps.getD 6 undef = _ at s6
        simp at s6
        clear hp
        refine wpOp_of_list rfl rfl ?_
        go_wp2_with (first | (go_at_call 16; refine (sFormatInt_any _ (by omega) _).mono ?_; rintro e w8 ⟨rfl, hb8⟩))
        exact ⟨_, rfl, rfl, (by repeat (first | exact kE | exact Ext.refl _ | apply Ext.alloc | apply Ext.drewN | apply Ext.drew | apply Ext.set0 | apply Ext.set1 | apply Ext.set2 | apply Ext.set3 | (refine Ext.setk ?_ (by omega) _) | (apply Ext.snoc; assumption)))⟩
      · intro hp
        have s7 := hp 1 (by rfl)
        change a.tmps.getD 7 undef = _ at s7
        simp at s7
        clear hp
        refine wpOp_of_list rfl rfl ?_
        go_wp2_with (first | (go_at_call 16; refine (sFormatInt_any _ (by omega) _).mono ?_; rintro e w8 ⟨rfl, hb8⟩))
        exact ⟨_, rfl, rfl, (by repeat (first | exact kE | exact Ext.refl _ | apply Ext.alloc | apply Ext.drewN | apply Ext.drew | apply Ext.set0 | apply Ext.set1 | apply Ext.set2 | apply Ext.set3 | (refine Ext.setk ?_ (by omega) _) | (apply Ext.snoc; assumption)))⟩
      · intro hp
        have s8 := hp 2 (by rfl)
        change a.tmps.getD 8 undef = _ at s8
        simp at s8
        clear hp
        refine wpOp_of_list rfl rfl ?_
        go_wp2_with (first | (go_at_call 16; refine (sFormatInt_any _ (by omega) _).mono ?_; rintro e w8 ⟨rfl, hb8⟩))
        exact ⟨_, rfl, rfl, (by repeat (first | exact kE | exact Ext.refl _ | apply Ext.alloc | apply Ext.drewN | apply Ext.drew | apply Ext.set0 | apply Ext.set1 | apply Ext.set2 | apply Ext.set3 | (refine Ext.setk ?_ (by omega) _) | (apply Ext.snoc; assumption)))⟩
      · intro hp
        have s1 := hA 1 (by rfl)
        simp [sl] at s1
        clear hp
        refine wpOp_of_list rfl rfl ?_
        go_wp2_with (first | (go_at_call 16; refine (sFormatInt_any _ (by omega) _).mono ?_; rintro e w8 ⟨rfl, hb8⟩))
        exact ⟨_, rfl, rfl, (by repeat (first | exact kE | exact Ext.refl _ | apply Ext.alloc | apply Ext.drewN | apply Ext.drew | apply Ext.set0 | apply Ext.set1 | apply Ext.set2 | apply Ext.set3 | (refine Ext.setk ?_ (by omega) _) | (apply Ext.snoc; assumption)))⟩
      · intro hp
        have s10 := hp 4 (by rfl)
        change a.tmps.getD 10 undef = _ at s10
        simp at s10
        clear hp
        refine wpOp_of_list rfl rfl ?_
        go_wp2_with (first | (go_at_call 16; refine (sFormatInt_any _ (by omega) _).mono ?_; rintro e w8 ⟨rfl, hb8⟩))
        exact ⟨_, rfl, rfl, (by repeat (first | exact kE | exact Ext.refl _ | apply Ext.alloc | apply Ext.drewN | apply Ext.drew | apply Ext.set0 | apply Ext.set1 | apply Ext.set2 | apply Ext.set3 | (refine Ext.setk ?_ (by omega) _) | (apply Ext.snoc; assumption)))⟩
      · intro hp
        have s11 := hp 5 (by rfl)
        change a.tmps.getD 11 undef = _ at s11
        simp at s11
        clear hp
        refine wpOp_of_list rfl rfl ?_
        go_wp2_with (first | (go_at_call 16; refine (sFormatInt_any _ (by omega) _).mono ?_; rintro e w8 ⟨rfl, hb8⟩))
        exact ⟨_, rfl, rfl, (by repeat (first | exact kE | exact Ext.refl _ | apply Ext.alloc | apply Ext.drewN | apply Ext.drew | apply Ext.set0 | apply Ext.set1 | apply Ext.set2 | apply Ext.set3 | (refine Ext.setk ?_ (by omega) _) | (apply Ext.snoc; assumption)))⟩
      · intro hp
        have s9 := hp 3 (by rfl)
        change a.tmps.getD 9 undef = _ at s9
        simp at s9
        have s12 := hp 6 (by rfl)
        change a.tmps.getD 12 undef = _ at s12
        simp at s12
        clear hp
        refine wpOp_of_list rfl rfl ?_
        go_wp2_with (first | (go_at_call 16; refine (sFormatInt_any _ (by omega) _).mono ?_; rintro e w8 ⟨rfl, hb8⟩))
        exact ⟨_, rfl, rfl, (by repeat (first | exact kE | exact Ext.refl _ | apply Ext.alloc | apply Ext.drewN | apply Ext.drew | apply Ext.set0 | apply Ext.set1 | apply Ext.set2 | apply Ext.set3 | (refine Ext.setk ?_ (by omega) _) | (apply Ext.snoc; assumption)))⟩
      · intro hp
        have s13 := hp 7 (by rfl)
        change a.tmps.getD 13 undef = _ at s13
        simp at s13
        clear hp
        refine wpOp_of_list rfl rfl ?_
        go_wp2_with (first | (go_at_call 16; refine (sFormatInt_any _ (by omega) _).mono ?_; rintro e w8 ⟨rfl, hb8⟩))
        exact ⟨_, rfl, rfl, (by repeat (first | exact kE | exact Ext.refl _ | apply Ext.alloc | apply Ext.drewN | apply Ext.drew | apply Ext.set0 | apply Ext.set1 | apply Ext.set2 | apply Ext.set3 | (refine Ext.setk ?_ (by omega) _) | (apply Ext.snoc; assumption)))⟩
      · intro hp
        have s1 := hA 1 (by rfl)
        simp [sl] at s1
        clear hp
        refine wpOp_of_list rfl rfl ?_
        go_wp2_with (first | (go_at_call 16; refine (sFormatInt_any _ (by omega) _).mono ?_; rintro e w8 ⟨rfl, hb8⟩))
        exact ⟨_, rfl, rfl, (by repeat (first | exact kE | exact Ext.refl _ | apply Ext.alloc | apply Ext.drewN | apply Ext.drew | apply Ext.set0 | apply Ext.set1 | apply Ext.set2 | apply Ext.set3 | (refine Ext.setk ?_ (by omega) _) | (apply Ext.snoc; assumption)))⟩
      · intro hp
        have s15 := hp 9 (by rfl)
        change a.tmps.getD 15 undef = _ at s15
        simp at s15
        clear hp
        refine wpOp_of_list rfl rfl ?_
        go_wp2_with (first | (go_at_call 16; refine (sFormatInt_any _ (by omega) _).mono ?_; rintro e w8 ⟨rfl, hb8⟩))
        exact ⟨_, rfl, rfl, (by repeat (first | exact kE | exact Ext.refl _ | apply Ext.alloc | apply Ext.drewN | apply Ext.drew | apply Ext.set0 | apply Ext.set1 | apply Ext.set2 | apply Ext.set3 | (refine Ext.setk ?_ (by omega) _) | (apply Ext.snoc; assumption)))⟩
      · intro hp
        have s16 := hp 10 (by rfl)
        change a.tmps.getD 16 undef = _ at s16
        simp at s16
        clear hp
        refine wpOp_of_list rfl rfl ?_
        go_wp2_with (first | (go_at_call 16; refine (sFormatInt_any _ (by omega) _).mono ?_; rintro e w8 ⟨rfl, hb8⟩))
        exact ⟨_, rfl, rfl, (by repeat (first | exact kE | exact Ext.refl _ | apply Ext.alloc | apply Ext.drewN | apply Ext.drew | apply Ext.set0 | apply Ext.set1 | apply Ext.set2 | apply Ext.set3 | (refine Ext.setk ?_ (by omega) _) | (apply Ext.snoc; assumption)))⟩
      · intro hp
        have s14 := hp 8 (by rfl)
        change a.tmps.getD 14 undef = _ at s14
        simp at s14
        have s17 := hp 11 (by rfl)
        change a.tmps.getD 17 undef = _ at s17
        simp at s17
        clear hp
        refine wpOp_of_list rfl rfl ?_
        go_wp2_with (first | (go_at_call 16; refine (sFormatInt_any _ (by omega) _).mono ?_; rintro e w8 ⟨rfl, hb8⟩))
        exact ⟨_, rfl, rfl, (by repeat (first | exact kE | exact Ext.refl _ | apply Ext.alloc | apply Ext.drewN | apply Ext.drew | apply Ext.set0 | apply Ext.set1 | apply Ext.set2 | apply Ext.set3 | (refine Ext.setk ?_ (by omega) _) | (apply Ext.snoc; assumption)))⟩
      · intro hp
        have s18 := hp 12 (by rfl)
        change a.tmps.getD 18 undef = _ at s18
        simp at s18
        clear hp
        refine wpOp_of_list rfl rfl ?_
        go_wp2_with (first | (go_at_call 16; refine (sFormatInt_any _ (by omega) _).mono ?_; rintro e w8 ⟨rfl, hb8⟩))
        exact ⟨_, rfl, rfl, (by repeat (first | exact kE | exact Ext.refl _ | apply Ext.alloc | apply Ext.drewN | apply Ext.drew | apply Ext.set0 | apply Ext.set1 | apply Ext.set2 | apply Ext.set3 | (refine Ext.setk ?_ (by omega) _) | (apply Ext.snoc; assumption)))⟩
    case Xfin =>
      intro X w7 hE7 hp
      obtain ⟨⟨⟨⟨⟨⟨⟨⟨⟨⟨⟨⟨⟨⟨_, h0⟩, h1⟩, h2⟩, h3⟩, h4⟩, h5⟩, h6⟩, h7⟩, h8⟩, h9⟩, h10⟩, h11⟩, h12⟩, h13⟩ := hp
      change X 0 = _ at h0
      change X 1 = _ at h1
      change X 2 = _ at h2
      change X 3 = _ at h3
      change X 4 = _ at h4
      change X 5 = _ at h5
      change X 6 = _ at h6
      change X 7 = _ at h7
      change X 8 = _ at h8
      change X 9 = _ at h9
      change X 10 = _ at h10
      change X 11 = _ at h11
      change X 12 = _ at h12
      change X 13 = _ at h13
      simp only [List.drop_succ_cons, List.drop_nil]
      refine wpList_nil ?_
      go_simp
      have E7 := hide (kE.trans hE7)
      go_wp2
      go_ret
      exact ⟨by rw [HV.out]; rfl, E7.out⟩
  · have hs' : stainOk a b c = false := by simpa using hs
    have HV : Hid (textB a b c = ⟨#[]⟩) := hide (by unfold textB; rw [hs']; rfl)
    clear hs
    
    go_enter Tryd.func5, Tryd.ntmps5
    go_wp2_with fail
    obtain ⟨w0, hw⟩ : ∃ w1, w1 = (w.alloc (Obj.cells #[Value.int IntKind.i64 a, Value.int IntKind.i64 b, Value.int IntKind.i64 c] 25)) := ⟨_, rfl⟩; rw [← hw]; have kT : Tr [(w.heap.size, [.int .i64 a, .int .i64 b, .int .i64 c])] w w0 := (by rw [hw]; exact ⟨by (first | (simp [Bx, CellsAt, go_sem, *]; done) | (simp [Bx, CellsAt, go_sem, *]; omega)), by (repeat (first | exact kE | exact Ext.refl _ | apply Ext.alloc | apply Ext.drewN | apply Ext.drew | apply Ext.set0 | apply Ext.set1 | apply Ext.set2 | apply Ext.set3 | (refine Ext.setk ?_ (by omega) _) | (apply Ext.snoc; assumption)))⟩); have HT := hide kT; clear hw kT; have kT := HT.out; simp only [Tr, Bx, CellsAt, Nat.reduceAdd, Nat.zero_add, and_true] at kT; obtain ⟨⟨kz0, kf0, kc0_0, kc0_1, kc0_2⟩, kE⟩ := kT
    refine (sStainOk_any _ _ _ _).mono ?_; rintro e w1 ⟨rfl, hb⟩; have HT := hide (HT.out.ext hb); have Hw1 := hide hb; clear hb; clear kz0 kf0 kc0_0 kc0_1 kc0_2 kE; have kT := HT.out; simp only [Tr, Bx, CellsAt, Nat.reduceAdd, Nat.zero_add, and_true] at kT; obtain ⟨⟨kz0, kf0, kc0_0, kc0_1, kc0_2⟩, kE⟩ := kT
    rw [hs']
    go_wp2_with fail
    go_ret
    exact ⟨by rw [HV.out]; rfl, by repeat (first | exact kE | exact Ext.refl _ | apply Ext.alloc | apply Ext.drewN | apply Ext.drew | apply Ext.set0 | apply Ext.set1 | apply Ext.set2 | apply Ext.set3 | (refine Ext.setk ?_ (by omega) _) | (apply Ext.snoc; assumption))⟩
end Go.Proofs.YtlpononcpocmoaaDoor
