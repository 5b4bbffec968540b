/- Walks of the ends of a dart (both forms). No condition but that the dart is one of the window's. -/
import Derived.Test.YtkgbilbicdiadaaIns
import Derived.Test.YtkgbilbicdiadaaTrack
import Derived.Test.YtkgbilbicdiadaaQuietE
set_option linter.unusedSimpArgs false
set_option linter.unusedVariables false
namespace Go.Proofs.Ytkgbilbicdiadaa
open Go.RowKit

theorem half_nat (d : Nat) : (d : Int).tdiv 2 = ((d / 2 : Nat) : Int) := by rw [Int.tdiv_eq_ediv_of_nonneg (by omega)]; omega
theorem mod_nat (d : Nat) : (d : Int).tmod 2 = ((d % 2 : Nat) : Int) := by rw [Int.tmod_eq_emod_of_nonneg (by omega)]; omega
theorem dartFrom_any (N E : List P2) (A B : Option Addr) (c c' : Nat) (d : Nat) (w : World) (h : WR w N E A B c c') (hd : d < 2 * E.length) :
    Calls Try.prog 152 #[.agg #[.slice A N.length c, .slice B E.length c'], .int .i64 (d : Nat)] w fun e w' => e = .returned (.int .i64 (fromN E d)) ∧ Ext w w' := by
  have hk : d / 2 < E.length := by omega
  have hl := h.hE
  obtain ⟨b, off, rfl, hb, e0, e1⟩ := R2.at_ h.hs hk
  obtain ⟨⟨p, q⟩, hpq⟩ : ∃ q : P2, E[d / 2] = q := ⟨_, rfl⟩
  have HF : Hid (fromN E d = if d % 2 = 0 then p else q) := hide (by unfold fromN; rw [at2_eq hk, hpq])
  rw [hpq] at e0 e1
  dsimp only at e0 e1
  have hc := h.hd
  clear h hpq
  have h1 := half_nat d
  have h2 := mod_nat d
  have x0 : (0 : Int) ≤ ((d / 2 : Nat) : Int) := by omega
  have x1 : ((d / 2 : Nat) : Int) < (E.length : Int) := by omega
  go_enter Try.func152, Try.ntmps152
  rcases Nat.mod_two_eq_zero_or_one d with hm | hm
  · rw [hm] at h2
    go_wp2
    go_ret
    exact ⟨ret_int (by rw [HF.out, if_pos hm]), by repeat (first | exact kE | exact Ext.refl _ | apply Ext.alloc | apply Ext.drewN | apply Ext.drew | apply Ext.set0 | apply Ext.set1 | apply Ext.set2 | apply Ext.set3 | (refine Ext.setk ?_ (by omega) _) | (apply Ext.snoc; assumption))⟩
  · rw [hm] at h2
    go_wp2
    go_ret
    exact ⟨ret_int (by rw [HF.out, if_neg (by omega)]), by repeat (first | exact kE | exact Ext.refl _ | apply Ext.alloc | apply Ext.drewN | apply Ext.drew | apply Ext.set0 | apply Ext.set1 | apply Ext.set2 | apply Ext.set3 | (refine Ext.setk ?_ (by omega) _) | (apply Ext.snoc; assumption))⟩
theorem l05Ends_any (N E : List P2) (A B : Option Addr) (c c' : Nat) (d : Nat) (w : World) (h : WR w N E A B c c') (hd : d < 2 * E.length) :
    Calls Try.prog 131 #[.agg #[.slice A N.length c, .slice B E.length c'], .int .i64 (d : Nat)] w fun e w' => e = .returned (.tuple #[.int .i64 (fromN E d), .int .i64 (fromN E (twin d))]) ∧ Ext w w' := by
  have hk : d / 2 < E.length := by omega
  have hl := h.hE
  obtain ⟨b, off, rfl, hb, e0, e1⟩ := R2.at_ h.hs hk
  obtain ⟨⟨p, q⟩, hpq⟩ : ∃ q : P2, E[d / 2] = q := ⟨_, rfl⟩
  have HF : Hid ((fromN E d = if d % 2 = 0 then p else q) ∧ fromN E (twin d) = if d % 2 = 0 then q else p) := hide (by
    unfold fromN
    rw [twin_half, at2_eq hk, hpq]
    refine ⟨rfl, ?_⟩
    unfold twin
    rcases Nat.mod_two_eq_zero_or_one d with hm | hm
    · rw [if_pos hm, if_pos hm, if_neg (by omega)]
    · rw [if_neg (show ¬ d % 2 = 0 by omega), if_neg (show ¬ d % 2 = 0 by omega), if_pos (by omega)])
  rw [hpq] at e0 e1
  dsimp only at e0 e1
  have hc := h.hd
  clear h hpq
  have h1 := half_nat d
  have h2 := mod_nat d
  have x0 : (0 : Int) ≤ ((d / 2 : Nat) : Int) := by omega
  have x1 : ((d / 2 : Nat) : Int) < (E.length : Int) := by omega
  go_enter Try.func131, Try.ntmps131
  rcases Nat.mod_two_eq_zero_or_one d with hm | hm
  · rw [hm] at h2
    go_wp2
    go_quiet (fail)
    go_wp2
    refine bodyPost_ret (v := .tuple #[.int .i64 p, .int .i64 q]) (by simp only [results, Try.results131]; go_simp) rfl ⟨?_, ?_⟩
    · rw [HF.out.1, HF.out.2, if_pos hm, if_pos hm]
    · repeat (first | exact kE | exact Ext.refl _ | apply Ext.alloc | apply Ext.drewN | apply Ext.drew | apply Ext.set0 | apply Ext.set1 | apply Ext.set2 | apply Ext.set3 | (refine Ext.setk ?_ (by omega) _) | (apply Ext.snoc; assumption))
  · rw [hm] at h2
    go_wp2
    go_quiet (fail)
    go_wp2
    refine bodyPost_ret (v := .tuple #[.int .i64 q, .int .i64 p]) (by simp only [results, Try.results131]; go_simp) rfl ⟨?_, ?_⟩
    · rw [HF.out.1, HF.out.2, if_neg (by omega), if_neg (by omega)]
    · repeat (first | exact kE | exact Ext.refl _ | apply Ext.alloc | apply Ext.drewN | apply Ext.drew | apply Ext.set0 | apply Ext.set1 | apply Ext.set2 | apply Ext.set3 | (refine Ext.setk ?_ (by omega) _) | (apply Ext.snoc; assumption))
end Go.Proofs.Ytkgbilbicdiadaa
