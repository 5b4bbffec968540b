/- Walks of the draw of a sheet with flaws. Condition: the bytes are at most 1048576. -/
import Derived.Test.YtgaeafjmofbkbaaDrawS
import Derived.Test.YtgaeafjmofbkbaaFlawP
import Derived.Test.YtgaeafjmofbkbaaNodes
import Derived.Test.YtgaeafjmofbkbaaOwn
import Derived.Test.YtgaeafjmofbkbaaMat
import Derived.Deep.RegionHeld3
set_option linter.unusedSimpArgs false
set_option linter.unusedVariables false
namespace Go.Proofs.Ytgaeafjmofbkbaa
open Go.RowKit

theorem node_facts : (Try.prog.info? 32).map (fun i => (i.zero, i.size, i.bytes)) = some (some (.agg #[.int .i64 0, .int .i64 0]), 2, 16) := by kernel_rfl
theorem own_ne {w : World} {base n sz g : Nat} {e : TypeId} {v : Value} {xs : List Value} (h : w.ownsRow base e sz v n xs) (hg : g < base) : v.ownBlock ≠ some g := fun e => by
  have := (h.lt _ e).1
  omega
theorem own_not {w : World} {base n sz g : Nat} {e : TypeId} {v : Value} {xs : List Value} (h : w.ownsRow base e sz v n xs) (hg : g < base) : v.ownBlock = none ∨ v.ownBlock ≠ some g := by
  rcases hv : v.ownBlock with _ | k
  · exact .inl rfl
  · refine .inr (fun e => ?_)
    injection e with e
    subst e
    have := (h.lt _ hv).1
    omega
theorem own_put {w : World} {base n sz g : Nat} {e : TypeId} {v : Value} {xs : List Value} (h : w.ownsRow base e sz v n xs) (hg : g < base) (i : Nat) (u : Value) : (w.setCell ⟨g, i, none⟩ u).ownsRow base e sz v n xs :=
  h.kept (grown_set ⟨rfl, rfl, rfl, Nat.le_refl _, fun _ _ _ => rfl⟩ i u) (own_not h hg)
theorem two_cells (a b : Int) : ∀ u ∈ [Value.int .i64 a, Value.int .i64 b], u.oneCell' = true := by intro u hu; simp at hu; rcases hu with rfl | rfl <;> rfl
theorem Cur.grownF {w w' : World} {g : Nat} {l : List Int} (h : Cur w g l) {row : Option Nat} (hg : w.grownBy w' row) (hr : ∀ k, row = some k → g < k) : Cur w' g l := by
  obtain ⟨A, c, i, h', h1, h2, h3, h4⟩ := h
  refine ⟨A, c, i, h', h1, h2.grown hg (fun e => by have := hr _ e; omega), ?_, h4⟩
  refine ⟨?_, h3.2⟩
  rcases Nat.eq_zero_or_pos l.length with e | e
  · exact ⟨h3.1.1, fun h => absurd h (by omega)⟩
  · exact h3.1.grown hg (fun b off e1 e2 => by have := h4 e b off e1; have := hr _ e2; omega)
set_option maxHeartbeats 4000000 in
theorem l21Flawed_any (g : Nat) (l : List Int) (a w : World) (hl : l.length ≤ 1048576) (hc : Cur w g l) (hE : Ext a w) (hag : a.heap.size ≤ g) :
    Calls Try.prog 12 #[.pointer (some ⟨g, 0, none⟩)] w fun e w' => ∃ (W H : Int) (L : List P2) (A : Option Addr) (c : Nat), e = .returned (.agg #[.int .i64 W, .int .i64 H, .slice A L.length c]) ∧ FlawIn W H L ∧ w'.ownsRow w.heap.size 32 2 (.slice A L.length c) L.length (enc2 L) ∧ Ext a w' := by
  obtain ⟨i0, hi, hz0, hz1, hz2⟩ := info_parts node_facts
  have HC := hide hc
  have hgl := hc.lt
  have haw := hE.size
  have kE := hide hE
  clear hc hE
  go_enter Try.func12, Try.ntmps12
  go_wp2_with fail
  obtain ⟨w0, hw⟩ : ∃ w0, w0 = w.alloc (Obj.cells #[Value.int IntKind.i64 0, Value.int IntKind.i64 0, Value.slice none 0 0] 28) := ⟨_, rfl⟩
  rw [← hw]
  have HR := hide (show Blk w0 w.heap.size 28 [.int .i64 0, .int .i64 0, .slice none 0 0] by rw [hw]; exact Blk.new w _ _)
  have HC := hide (show Cur w0 g l by rw [hw]; exact HC.out.ext ((Ext.refl _).alloc _))
  have kE := hide (show Ext a w0 by rw [hw]; exact kE.out.alloc _)
  clear hw
  refine (l01Below_any g 8 l _ hl (by omega) (by omega) HC.out).mono ?_; rintro e w1 ⟨x, rfl, hx0, hx1, hc1, hg1⟩
  have HR := hide (HR.out.grown hg1 (fun e => by injection e; omega))
  have kE := hide (Ext.grown kE.out hg1 (fun k e => by injection e; omega))
  have HC := hide hc1
  clear hc1 hg1
  go_wp2_with fail
  refine (l01Below_any g 8 l _ hl (by omega) (by omega) HC.out).mono ?_; rintro e w2 ⟨y, rfl, hy0, hy1, hc2, hg2⟩
  have HR := hide (HR.out.grown hg2 (fun e => by injection e; omega))
  have kE := hide (Ext.grown kE.out hg2 (fun k e => by injection e; omega))
  have HC := hide hc2
  clear hc2 hg2
  go_wp2_with fail
  obtain ⟨X, hX⟩ : ∃ X, X = w2.heap.size := ⟨_, rfl⟩
  obtain ⟨W, hW⟩ : ∃ W, W = 1 + x := ⟨_, rfl⟩
  obtain ⟨H, hH⟩ : ∃ H, H = 1 + y := ⟨_, rfl⟩
  obtain ⟨w3, hw⟩ : ∃ w3, w3 = w2.alloc (Obj.cells #[Value.int IntKind.i64 (1 + x), Value.int IntKind.i64 (1 + y), Value.slice none 0 0] 28) := ⟨_, rfl⟩
  have hgX : g < X := by rw [hX]; exact HC.out.lt
  have hRX : w.heap.size < X := by rw [hX]; exact HR.out.lt
  have HX := hide (show Blk w3 X 28 [.int .i64 W, .int .i64 H, .slice none 0 0] by rw [hw, hX, hW, hH]; exact Blk.new _ _ _)
  have HR := hide (show Blk w3 w.heap.size 28 [.int .i64 0, .int .i64 0, .slice none 0 0] by rw [hw]; exact HR.out.ext ((Ext.refl _).alloc _))
  have HC := hide (show Cur w3 g l by rw [hw]; exact HC.out.ext ((Ext.refl _).alloc _))
  have kE := hide (show Ext a w3 by rw [hw]; exact kE.out.alloc _)
  rw [← hw, ← hX]
  have hWb : 1 ≤ W ∧ W ≤ 8 := by omega
  have hHb : 1 ≤ H ∧ H ≤ 8 := by omega
  clear hw hX hW hH hx0 hx1 hy0 hy1
  refine (l01Below_any g 6 l _ hl (by omega) (by omega) HC.out).mono ?_; rintro e w4 ⟨n, rfl, hn0, hn1, hc4, hg4⟩
  obtain ⟨N, rfl⟩ := Int.eq_ofNat_of_zero_le hn0
  have HR := hide (HR.out.grown hg4 (fun e => by injection e; omega))
  have HX := hide (HX.out.grown hg4 (fun e => by injection e; omega))
  have kE := hide (Ext.grown kE.out hg4 (fun k e => by injection e; omega))
  have HC := hide hc4
  have hX4 : X < w4.heap.size := HX.out.lt
  clear hc4 hg4
  go_wp2_with fail
  go_loopw [5] (fun i wr => ∃ k : Nat, k ≤ N ∧ i = .int .i64 k ∧ (∃ (L : List P2) (A : Option Addr) (c : Nat), L.length = k ∧ (∀ s ∈ L, 0 ≤ s.1 ∧ s.1 < W ∧ 0 ≤ s.2 ∧ s.2 < H) ∧ wr.ownsRow w4.heap.size 32 2 (.slice A k c) k (enc2 L) ∧ Blk wr X 28 [.int .i64 W, .int .i64 H, .slice A k c]) ∧ Blk wr w.heap.size 28 [.int .i64 0, .int .i64 0, .slice none 0 0] ∧ Cur wr g l ∧ Ext a wr ∧ w4.heap.size ≤ wr.heap.size) (fun i _ => N - (intOf i).toNat)
  case atStart => exact ⟨0, Nat.zero_le _, rfl, ⟨[], none, 0, rfl, by simp, World.ownsRow_nil _ _ _ _, HX.out⟩, HR.out, HC.out, kE.out, Nat.le_refl _⟩
  case round =>
    obtain ⟨k, hk, rfl, ⟨L, A, c, rfl, hL, hown, hx⟩, hr, hcr, hEr, hsz⟩ := hrel
    have HO := hide hown
    have HL := hide hL
    have HX := hide hx
    have HR := hide hr
    have HCr := hide hcr
    have kE := hide hEr
    clear hown hL hx hr hcr hEr
    have c0 : wr.cell? ⟨X, 0, none⟩ = some (.int .i64 W) := (HX.out.cell 0).trans rfl
    have c1 : wr.cell? ⟨X, 1, none⟩ = some (.int .i64 H) := (HX.out.cell 1).trans rfl
    have c2 : wr.cell? ⟨X, 2, none⟩ = some (.slice A L.length c) := (HX.out.cell 2).trans rfl
    have f0 := HX.out.free
    have hXw := HX.out.lt
    by_cases hlt : L.length < N
    · go_wp2_with fail
      have n1 : ¬ X = g := by omega
      have n3 : ¬ X = wr.heap.size := by omega
      have n4 : ¬ wr.heap.size = X := by omega
      have n2 : ¬ wr.heap.size = g := by have := HCr.out.lt; omega
      go_region_held3 (fun w' => w'.cell? ⟨X, 0, none⟩ = some (.int .i64 W) ∧ w'.cell? ⟨X, 1, none⟩ = some (.int .i64 H)) (first | exact ⟨c0, c1⟩ | exact ⟨d0, d1⟩ | exact ⟨e0, e1⟩ | go_keep) ((first | (have hq5 := hq5; go_at_call 18; refine (l01Below_any g H l _ hl (by omega) (by omega) (by first | exact hc5 | exact hc5.ext (by repeat (first | exact Ext.refl _ | apply Ext.alloc | apply Ext.drewN | apply Ext.drew)))).mono ?_; rintro e w6 ⟨x2, rfl, hp6, hq6, hc6, hg6⟩; have kc6 := grown_cells hg6; have kf6 := grown_frz hg6; have kz6 := grown_lt hg6; have e0 : w6.cell? ⟨X, 0, none⟩ = some (.int .i64 W) := (kc6 X 0 (by first | assumption | (simp; done) | (simp; omega)) n1).trans (by first | assumption | (simp [go_sem, *]; done)); have e1 : w6.cell? ⟨X, 1, none⟩ = some (.int .i64 H) := (kc6 X 1 (by first | assumption | (simp; done) | (simp; omega)) n1).trans (by first | assumption | (simp [go_sem, *]; done)); have e2 : w6.cell? ⟨X, 2, none⟩ = some (.slice A L.length c) := (kc6 X 2 (by first | assumption | (simp; done) | (simp; omega)) n1).trans (by first | assumption | (simp [go_sem, *]; done)); have ez : X < w6.heap.size := kz6 _ (by first | assumption | (simp; done) | (simp; omega)); (try have t0 : w6.cell? ⟨wr.heap.size, 0, none⟩ = some (.int .i64 0) := (kc6 _ 0 (by first | assumption | (simp; done) | (simp; omega)) n2).trans (by first | assumption | (simp [go_sem]; done))); (try have t1 : w6.cell? ⟨wr.heap.size, 1, none⟩ = some (.int .i64 0) := (kc6 _ 1 (by first | assumption | (simp; done) | (simp; omega)) n2).trans (by first | assumption | (simp [go_sem]; done))); (try have tf : ∀ i, w6.frozen? ⟨wr.heap.size, i, none⟩ = false := fun i => (kf6 _ i (by first | assumption | (simp; done) | (simp; omega)) n2).trans (by first | (simp [go_sem]; done) | (apply_assumption))); (try have tz : wr.heap.size < w6.heap.size := kz6 _ (by first | assumption | (simp; done) | (simp; omega))); (try have u0 : w6.cell? ⟨w5.heap.size, 0, none⟩ = some (.int .i64 0) := (kc6 _ 0 (by first | assumption | (simp; done) | (simp; omega)) (by have := hc5.lt; omega)).trans (by first | assumption | (simp [go_sem]; done))); (try have u1 : w6.cell? ⟨w5.heap.size, 1, none⟩ = some (.int .i64 0) := (kc6 _ 1 (by first | assumption | (simp; done) | (simp; omega)) (by have := hc5.lt; omega)).trans (by first | assumption | (simp [go_sem]; done))); (try have uf : ∀ i, w6.frozen? ⟨w5.heap.size, i, none⟩ = false := fun i => (kf6 _ i (by first | assumption | (simp; done) | (simp; omega)) (by have := hc5.lt; omega)).trans (by first | (simp [go_sem]; done) | (apply_assumption))); (try have uz : w5.heap.size < w6.heap.size := kz6 _ (by first | assumption | (simp; done) | (simp; omega))); clear kc6 kf6 kz6) | (go_at_call 18; refine (l01Below_any g W l _ hl (by omega) (by omega) (by first | exact HCr.out | exact HCr.out.ext (by repeat (first | exact Ext.refl _ | apply Ext.alloc | apply Ext.drewN | apply Ext.drew)))).mono ?_; rintro e w5 ⟨x1, rfl, hp5, hq5, hc5, hg5⟩; have kc5 := grown_cells hg5; have kf5 := grown_frz hg5; have kz5 := grown_lt hg5; have d0 : w5.cell? ⟨X, 0, none⟩ = some (.int .i64 W) := (kc5 X 0 (by first | assumption | (simp; done) | (simp; omega)) n1).trans (by first | assumption | (simp [go_sem, *]; done)); have d1 : w5.cell? ⟨X, 1, none⟩ = some (.int .i64 H) := (kc5 X 1 (by first | assumption | (simp; done) | (simp; omega)) n1).trans (by first | assumption | (simp [go_sem, *]; done)); have d2 : w5.cell? ⟨X, 2, none⟩ = some (.slice A L.length c) := (kc5 X 2 (by first | assumption | (simp; done) | (simp; omega)) n1).trans (by first | assumption | (simp [go_sem, *]; done)); have dz : X < w5.heap.size := kz5 _ (by first | assumption | (simp; done) | (simp; omega)); (try have s0 : w5.cell? ⟨wr.heap.size, 0, none⟩ = some (.int .i64 0) := (kc5 _ 0 (by first | assumption | (simp; done) | (simp; omega)) n2).trans (by first | assumption | (simp [go_sem]; done))); (try have s1 : w5.cell? ⟨wr.heap.size, 1, none⟩ = some (.int .i64 0) := (kc5 _ 1 (by first | assumption | (simp; done) | (simp; omega)) n2).trans (by first | assumption | (simp [go_sem]; done))); (try have sf : ∀ i, w5.frozen? ⟨wr.heap.size, i, none⟩ = false := fun i => (kf5 _ i (by first | assumption | (simp; done) | (simp; omega)) n2).trans (by first | (simp [go_sem]; done) | (apply_assumption))); (try have sz : wr.heap.size < w5.heap.size := kz5 _ (by first | assumption | (simp; done) | (simp; omega))); have n5 : ¬ X = w5.heap.size := (by omega); have n6 : ¬ w5.heap.size = X := (by omega); clear kc5 kf5 kz5)))
      all_goals
        have hgw : g < wr.heap.size := HCr.out.lt
        have G : wr.drew.grownBy w6 (some g) := by first | exact hg5.trans hg6 | exact hg5.trans ((World.grownBy_alloc w5 _ _).trans hg6) | exact ((World.grownBy_alloc wr.drew _ _).trans (show (wr.drew.alloc _).grownBy w5 (some g) from hg5)).trans hg6
        first
        | (obtain ⟨wz, hz⟩ : ∃ wz, wz = w6.alloc (Obj.cells #[Value.int IntKind.i64 x1, Value.int IntKind.i64 x2] 32) := ⟨_, rfl⟩
           rw [← hz]
           obtain ⟨sb, hsb⟩ : ∃ sb, sb = w6.heap.size := ⟨_, rfl⟩
           have Gz : wr.drew.grownBy wz (some g) := by rw [hz]; exact G.trans (World.grownBy_alloc w6 _ _)
           have Cz : Cur wz g l := by rw [hz]; exact hc6.ext ((Ext.refl _).alloc _)
           have z0 : wz.cell? ⟨sb, 0, none⟩ = some (.int .i64 x1) := by rw [hz, hsb]; simp [go_sem]
           have z1 : wz.cell? ⟨sb, 1, none⟩ = some (.int .i64 x2) := by rw [hz, hsb]; simp [go_sem]
           rw [← hsb])
        | (obtain ⟨wz, hz⟩ : ∃ wz, wz = (w6.setCell ⟨w5.heap.size, 0, none⟩ (Value.int IntKind.i64 x1)).setCell ⟨w5.heap.size, 1, none⟩ (Value.int IntKind.i64 x2) := ⟨_, rfl⟩
           rw [← hz]
           have hle : wr.heap.size ≤ w5.heap.size := (by have := hg5.size; simpa using this)
           obtain ⟨sb, hsb⟩ : ∃ sb, sb = w5.heap.size := ⟨_, rfl⟩
           have Gz : wr.drew.grownBy wz (some g) := by rw [hz]; exact grown_new (grown_new G hle _ _) hle _ _
           have Cz : Cur wz g l := by rw [hz]; exact (hc6.setk (by omega) _ _).setk (by omega) _ _
           have z0 : wz.cell? ⟨sb, 0, none⟩ = some (.int .i64 x1) := by rw [hz, hsb]; simp [go_sem, *]
           have z1 : wz.cell? ⟨sb, 1, none⟩ = some (.int .i64 x2) := by rw [hz, hsb]; simp [go_sem, *]
           rw [← hsb])
        | (obtain ⟨wz, hz⟩ : ∃ wz, wz = (w6.setCell ⟨wr.heap.size, 0, none⟩ (Value.int IntKind.i64 x1)).setCell ⟨wr.heap.size, 1, none⟩ (Value.int IntKind.i64 x2) := ⟨_, rfl⟩
           rw [← hz]
           have hle : wr.heap.size ≤ wr.heap.size := Nat.le_refl _
           obtain ⟨sb, hsb⟩ : ∃ sb, sb = wr.heap.size := ⟨_, rfl⟩
           have Gz : wr.drew.grownBy wz (some g) := by rw [hz]; exact grown_new (grown_new G hle _ _) hle _ _
           have Cz : Cur wz g l := by rw [hz]; exact (hc6.setk (by omega) _ _).setk (by omega) _ _
           have z0 : wz.cell? ⟨sb, 0, none⟩ = some (.int .i64 x1) := by rw [hz, hsb]; simp [go_sem, *]
           have z1 : wz.cell? ⟨sb, 1, none⟩ = some (.int .i64 x2) := by rw [hz, hsb]; simp [go_sem, *]
           rw [← hsb])
        clear hz hsb
        have HXz := hide (Blk.grown (show Blk wr.drew X _ _ from HX.out) Gz (fun e => by injection e; omega))
        have HRz := hide (Blk.grown (show Blk wr.drew _ _ _ from HR.out) Gz (fun e => by injection e; omega))
        have kEz := hide (Ext.grown (kE.out.drew) Gz (fun k e => by injection e; omega))
        have HOz := hide (World.ownsRow.kept (HO.out.drew) Gz (own_not HO.out (by omega)))
        have hszz : wr.heap.size ≤ wz.heap.size := Gz.size
        have HCz := hide Cz
        clear Cz Gz G hg5 hg6 hc5 hc6 n1 n2 c0 c1 c2 f0
        have c2 : wz.cell? ⟨X, 2, none⟩ = some (.slice A L.length c) := (HXz.out.cell 2).trans rfl
        have hXz := HXz.out.lt
        have hsz4 : w4.heap.size ≤ wz.heap.size := by omega
        clear hXw hsz
        go_wp2_with (at_builtin; refine wpList_append_own _ rfl _ _ 26 rfl w4.heap.size 32 i0 (.agg #[.int .i64 0, .int .i64 0]) 2 16 Try.underlying26 hi hz0 hz1 hz2 rfl (by decide) (.slice A L.length c) L.length (enc2 L) rfl (own_ext HOz.out ((Ext.refl _).alloc _)) ⟨wz.heap.size, 0, none⟩ 1 1 [.int .i64 x1, .int .i64 x2] rfl rfl (news_new wz #[.int .i64 x1, .int .i64 x2] 32) (two_cells _ _) (by unfold maxLen; omega) (by omega) (by first | (simp; done) | (simp; omega)) ?_; intro v7 w7 hown7 hgrow7 hnil7; obtain ⟨A', c', hv, _, _, _⟩ := own_slice hown7; subst hv; have HX7 := hide ((HXz.out.ext ((Ext.refl _).alloc _)).grown hgrow7 (own_ne HOz.out hX4)); have c7 : w7.cell? ⟨X, 2, none⟩ = some (.slice A L.length c) := (HX7.out.cell 2).trans rfl; have f7 := HX7.out.free; have hX7 := HX7.out.lt)
        have hne7 := own_ne HOz.out hX4
        have hneR := own_ne HOz.out (show w.heap.size < w4.heap.size by omega)
        have hb7 := own_base HOz.out (Nat.le_refl _)
        have HR7 := hide ((HRz.out.ext ((Ext.refl _).alloc _)).grown hgrow7 hneR)
        have HC7 := hide ((HCz.out.ext ((Ext.refl _).alloc _)).grownF hgrow7 (fun k e => by have := hb7 k e; omega))
        have kE7 := hide (Ext.grown (kEz.out.alloc _) hgrow7 (fun k e => by have := hb7 k e; omega))
        have hs7 : w4.heap.size ≤ w7.heap.size := by have := hgrow7.size; simp at this; omega
        have HO7 := hide hown7
        clear hown7 hgrow7 hnil7 hne7 hneR hb7 HXz HRz HCz kEz HOz z0 z1
        clear c7 f7
        go_roundw
        case rel =>
          refine ⟨L.length + 1, by omega, by go_num, ⟨L ++ [(x1, x2)], A', c', by simp, fun s hs => ?_, ?_, HX7.out.set 2 _⟩, HR7.out.other (by omega) _, HC7.out.setk (by omega) _ _, Ext.setk kE7.out (by omega) _, by simpa using hs7⟩
          · rcases List.mem_append.1 hs with hs | hs
            · exact HL.out s hs
            · have e : s = (x1, x2) := by simpa using hs
              subst e
              exact ⟨hp5, hq5, hp6, hq6⟩
          · rw [enc2_append]
            exact own_put HO7.out hX4 2 _
        case measure => simp [intOf]; omega
    · obtain rfl : N = L.length := by omega
      have r0 : wr.cell? ⟨w.heap.size, 0, none⟩ = some (.int .i64 0) := (HR.out.cell 0).trans rfl
      have r1 : wr.cell? ⟨w.heap.size, 1, none⟩ = some (.int .i64 0) := (HR.out.cell 1).trans rfl
      have r2 : wr.cell? ⟨w.heap.size, 2, none⟩ = some (.slice none 0 0) := (HR.out.cell 2).trans rfl
      have rf := HR.out.free
      have rz := HR.out.lt
      have hF : FlawIn W H L := ⟨hWb, hHb, by omega, HL.out⟩
      have hR4 : w.heap.size < w4.heap.size := by omega
      have hOf := hide (own_mono (own_put (own_put (own_put HO.out hR4 0 (.int .i64 W)) hR4 1 (.int .i64 H)) hR4 2 (.slice A L.length c)) (Nat.le_of_lt hR4))
      have hEf := hide (Ext.setk (Ext.setk (Ext.setk kE.out haw (o := 0) (s := none) (.int .i64 W)) haw (o := 1) (s := none) (.int .i64 H)) haw (o := 2) (s := none) (.slice A L.length c))
      go_wp2_with fail
      refine bodyPost_ret (v := .agg #[.int .i64 W, .int .i64 H, .slice A L.length c]) (by simp only [results, Try.results12]; go_simp) rfl ⟨W, H, L, A, c, rfl, hF, hOf.out, hEf.out⟩
end Go.Proofs.Ytgaeafjmofbkbaa
