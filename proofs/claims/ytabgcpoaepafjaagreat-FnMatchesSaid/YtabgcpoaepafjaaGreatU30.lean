/- Words and walks for the law FnMatches, a part of them. No condition but that the arguments lie in memory. -/
import Derived.Test.YtabgcpoaepafjaaGreatU15
import Derived.Test.YtabgcpoaepafjaaGreatU24
import Derived.Test.YtabgcpoaepafjaaGreatU26
import Derived.Test.YtabgcpoaepafjaaGreatU29
import Derived.Deep.AppendLies
import Derived.Deep.Upon
import Derived.Maps.OwnSet
set_option linter.unusedVariables false
set_option linter.unusedSimpArgs false
namespace Go.Proofs.YtabgcpoaepafjaaGreat
open Go.RowKit
/-- The shapes of the first set with too few places. -/
noncomputable def lackV (N E : List P2) (L : List (List P2)) : List Int := if askB N E L = true then lackM (plN N E L) 40 else []
theorem lackV_no {N E : List P2} {L : List (List P2)} (h : askB N E L = false) : lackV N E L = [] := by unfold lackV; rw [if_neg (by simp [h])]
theorem lackV_yes {N E : List P2} {L : List (List P2)} (h : askB N E L = true) : lackV N E L = lackM (plN N E L) 40 := by unfold lackV; rw [if_pos h]
theorem lackV_len (N E : List P2) (L : List (List P2)) : (lackV N E L).length ≤ 8 := by
  cases h : askB N E L with
  | false => rw [lackV_no h]; simp
  | true =>
    rw [lackV_yes h]
    have h1 := lackM_length (plN N E L) 40
    rw [plN_length] at h1
    unfold askB at h
    rw [Bool.and_eq_true, decide_eq_true_eq] at h
    omega
set_option maxRecDepth 20000 in
set_option maxHeartbeats 16000000 in
theorem LackingShapes_any (N E : List P2) (L : List (List P2)) (A B C : Option Addr) (c c' c3 : Nat) (w : World) (hw : WR w N E A B c c') (hl : L.length ≤ 1048576) (hls : ∀ S ∈ L, S.length ≤ 1048576) (hr : RSS w C L) :
    Calls Tryz.prog 10 #[.agg #[.slice A N.length c, .slice B E.length c'], .slice C L.length c3] w fun e w' => ∃ A2 c2, e = .returned (.slice A2 (lackV N E L).length c2) ∧ w'.ownsRow w.heap.size 3 1 (.slice A2 (lackV N E L).length c2) (lackV N E L).length (encI (lackV N E L)) ∧ Ext w w' := by
  have HNO := hide (fun (W : World) (hE : Ext w W) (ha : askB N E L = false) => placesOf_no N E L A B C c c' c3 W (hw.ext hE) hl ha)
  have HYES := hide (fun (W : World) (hE : Ext w W) (ha : askB N E L = true) => placesOf_yes N E L A B C c c' c3 W (hw.ext hE) hls (hr.ext hE) ha)
  have HVN := hide (fun h => lackV_no (N := N) (E := E) (L := L) h)
  have HVY := hide (fun h => lackV_yes (N := N) (E := E) (L := L) h)
  have HPL := hide (plN_length N E L)
  have HLT := hide (plN_lt N E L)
  have HP40 := hide (plN_len N E L)
  have H8 := hide (show askB N E L = true → L.length ≤ 8 from fun h => by unfold askB at h; rw [Bool.and_eq_true, decide_eq_true_eq] at h; exact h.2)
  obtain ⟨P, hP⟩ : ∃ P, plN N E L = P := ⟨_, rfl⟩
  obtain ⟨V, hV⟩ : ∃ V, lackV N E L = V := ⟨_, rfl⟩
  obtain ⟨q, hq⟩ : ∃ q, askB N E L = q := ⟨_, rfl⟩
  rw [hP] at HYES HVY HPL HLT HP40
  rw [hV] at HVN HVY ⊢
  rw [hq] at HNO HYES HVN HVY H8
  clear hw hr hls hP hV hq
  
  go_enter Tryz.func10, Tryz.ntmps10
  go_wp2_with fail
  obtain ⟨w0, hw⟩ : ∃ w1, w1 = w.alloc (Obj.cells #[Value.slice A N.length c, Value.slice B E.length c'] 27) := ⟨_, rfl⟩; rw [← hw]; have kT : Tr [(w.heap.size, [.slice A N.length c, .slice B E.length c'])] w w0 := (by rw [hw]; exact ⟨by (first | (simp [Bx, CellsAt, go_sem, *]; done) | (simp [Bx, CellsAt, go_sem, *]; omega)), by (repeat (first | exact kE | exact Ext.refl _ | apply Ext.alloc | apply Ext.drewN | apply Ext.drew | apply Ext.set0 | apply Ext.set1 | apply Ext.set2 | apply Ext.set3 | (refine Ext.setk ?_ (by omega) _) | (apply Ext.snoc; assumption)))⟩); have HT := hide kT; clear hw kT; have kT := HT.out; simp only [Tr, Bx, CellsAt, Nat.reduceAdd, Nat.zero_add, and_true] at kT; obtain ⟨⟨kz0, kf0, kc0_0, kc0_1⟩, kE⟩ := kT
  cases q with
  | false =>
    refine (HNO.out _ kE rfl).mono ?_
    rintro e w3 ⟨rfl, hb⟩
    have HE := hide (kE.trans hb)
    clear hb
    obtain rfl := HVN.out rfl
    go_wp2_with fail
    go_ret
    exact ⟨none, 0, rfl, World.ownsRow_nil _ _ _ _, HE.out⟩
  | true =>
    refine (HYES.out _ kE rfl).mono ?_
    rintro e w3 ⟨A2, c2, rfl, hc1, hc2, hrnn, hb⟩
    have HR := hide hrnn
    have HE3 := hide (kE.trans hb)
    have h8 := H8.out rfl
    have HV2 := hide (HVY.out rfl)
    clear hb hrnn HVN HVY HNO HYES HT H8
    clear kz0 kf0 kc0_0 kc0_1 kE
    obtain ⟨m, hm⟩ : ∃ m, L.length = m := ⟨_, rfl⟩
    have HPM := hide (show P.length = m from by rw [HPL.out, hm])
    rw [hm] at hc1 h8 ⊢
    clear HPL hm
    obtain ⟨M, hM⟩ : ∃ M, 2 ^ m = M := ⟨_, rfl⟩
    have hM1 : 1 ≤ M := by rw [← hM]; exact Nat.one_le_two_pow
    have hM2 : M ≤ 256 := by rw [← hM]; exact Nat.pow_le_pow_right (n := 2) (by decide) h8
    have hpw : IntKind.i64.wrap ((2 : Int) ^ m) = (M : Int) := by rw [pow_word (by omega), hM]
    have HM := hide hM
    clear hM
    go_wp2_with fail
    go_loopw [7] (fun i wr => ∃ s : Nat, 1 ≤ s ∧ s ≤ M ∧ i = .int .i64 s ∧ Hid (lackF P 40 (M - s) s = V) ∧ Hid (Ext w3 wr)) (fun i _ => M - (intOf i).toNat)
    case atStart => exact ⟨1, by omega, hM1, rfl, hide (by rw [HV2.out, lackM, HPM.out, HM.out]), hide (Ext.refl _)⟩
    case round =>
      obtain ⟨s, hs1, hsM, rfl, HF, HE⟩ := hrel
      have hszr := HE.out.size
      by_cases hlt : s < M
      · have hlz : (s : Int) < (M : Int) := by omega
        have hsm : s < 2 ^ m := by rw [HM.out]; exact hlt
        have HMO := hide (membersOf_any s m wr hsm (by omega))
        have HSM := hide hsm
        have HI := hide (show ∀ j (hj : j < (memN s m).length), (memN s m)[j] < m from fun j hj => (memN_mem.1 (List.getElem_mem hj)).1)
        have hml : (memN s m).length ≤ 8 := Nat.le_trans (memN_length s m) h8
        have HOR := hide (show orL P (memN s m) = orB P s m from orL_mem P s m)
        have HFEW := hide (show fewB P 40 s = decide ((memN (orB P s m) 40).length < (memN s m).length) from by unfold fewB; rw [HPM.out])
        have HMI := hide (show memI s m = castZ (memN s m) from rfl)
        have HFY := hide (show fewB P 40 s = true → V = memI s m from fun h => by
          have h2 := HF.out
          rw [show M - s = (M - (s + 1)) + 1 by omega, lackF_yes h, HPM.out] at h2
          exact h2.symm)
        have HFN := hide (show fewB P 40 s = false → lackF P 40 (M - (s + 1)) (s + 1) = V from fun h => by
          have h2 := HF.out
          rw [show M - s = (M - (s + 1)) + 1 by omega, lackF_no h] at h2
          exact h2)
        have HMIL := hide (memI_length s m)
        rw [HMI.out, castZ_length] at HMO
        rw [HMI.out] at HFY
        obtain ⟨K, hK⟩ : ∃ K, memN s m = K := ⟨_, rfl⟩
        rw [hK] at HMO HI hml HOR HFEW HFY
        clear hK hsm HF HMI HMIL
        go_wp2_with fail
        refine HMO.out.mono ?_
        rintro e w4 ⟨A4, c4, rfl, ho4, hb4⟩
        have HK4 := hide ho4
        have HRK := hide (Rds.of_own ho4)
        have hlen4 := own_len ho4
        have HE4 := hide (HE.out.trans hb4)
        clear ho4 hb4 HMO HE
        go_wp2_with fail
        go_loopw [9, 33] (fun v i wr => ∃ j : Nat, j ≤ K.length ∧ i = .int .i64 j ∧ v = .int .i64 (orL P (K.take j) : Nat) ∧ Hid (Ext w4 wr)) (fun _ i _ => K.length - (intOf i).toNat)
        case atStart => exact ⟨0, Nat.zero_le _, rfl, rfl, hide (Ext.refl _)⟩
        case round =>
          obtain ⟨j, hj, rfl, rfl, HE5⟩ := hrel
          by_cases hjl : j < K.length
          · have hjz : (j : Int) < (K.length : Int) := by omega
            have HX5 := hide (HE4.out.trans HE5.out)
            obtain ⟨bK, oK, rfl, hbK, hcK⟩ := (Rds.ext HRK.out HE5.out).2 (by omega)
            have cK := hcK j _ (encI_castZ_get hjl)
            have hi2 := HI.out j hjl
            have HSN := hide (show orL P (K.take (j + 1)) = orL P (K.take j) ||| bitsOf (P.getD K[j] []) from by rw [List.take_succ_eq_append_getElem hjl, orL_snoc])
            obtain ⟨x, hx⟩ : ∃ x, K[j] = x := ⟨_, rfl⟩
            rw [hx] at cK hi2 HSN
            have hxz : (x : Int) < (m : Int) := by omega
            have hxP : x < P.length := by rw [HPM.out]; exact hi2
            obtain ⟨bP, oP, rfl, hbP, D, d, cP, hd1, hd2, hrD⟩ := (HR.out.ext HX5.out).at_ hxP
            have HRD := hide hrD
            have hr40 := HP40.out _ (List.getElem_mem hxP)
            have HRL := hide (HLT.out _ (List.getElem_mem hxP))
            have hgd : P.getD x [] = P[x] := by simp [hxP]
            rw [hgd] at HSN
            obtain ⟨r, hr⟩ : ∃ r, P[x] = r := ⟨_, rfl⟩
            rw [hr] at cP HRD hr40 HRL HSN hd1
            have hu := orL_lt HLT.out (K.take j)
            obtain ⟨u, hu2⟩ : ∃ u, orL P (K.take j) = u := ⟨_, rfl⟩
            rw [hu2] at hu HSN ⊢
            have HU := hide hu
            clear hu hu2 hr hgd hx hcK hrD hxP
            go_wp2_with fail
            go_loopw [9, 42] (fun v i wz => ∃ y : Nat, y ≤ r.length ∧ i = .int .i64 y ∧ v = .int .i64 ((u ||| bitsOf (r.take y) : Nat) : Int) ∧ Hid (Ext wr wz)) (fun _ i _ => r.length - (intOf i).toNat)
            case atStart => exact ⟨0, Nat.zero_le _, rfl, by simp [bitsOf], hide (Ext.refl _)⟩
            case round =>
              obtain ⟨y, hy, rfl, rfl, HE6⟩ := hrel
              by_cases hyl : y < r.length
              · have hyz : (y : Int) < (r.length : Int) := by omega
                obtain ⟨bR, oR, rfl, hbR, hcR⟩ := (Rds.ext HRD.out HE6.out).2 (by omega)
                have cR := hcR y _ (encI_castZ_get hyl)
                have hfl := HRL.out _ (List.getElem_mem hyl)
                have HBT := hide (bitsOf_take hyl)
                have hb1 := bitsOf_take_lt HRL.out y
                obtain ⟨f, hf⟩ : ∃ f, r[y] = f := ⟨_, rfl⟩
                rw [hf] at cR hfl HBT
                obtain ⟨z, hz⟩ : ∃ z, u ||| bitsOf (r.take y) = z := ⟨_, rfl⟩
                have HZ := hide hz
                have hzl : z < 2 ^ 40 := by rw [← hz]; exact Nat.or_lt_two_pow HU.out hb1
                rw [hz]
                have hor := or_shl (u := z) (f := f) (Nat.lt_of_lt_of_le hzl (by decide)) (by omega)
                clear hz hf hcR hb1 hzl
                go_wp2_with fail
                go_roundw
                case rel => exact ⟨y + 1, by omega, by go_num, by rw [HBT.out, ← Nat.or_assoc, HZ.out]; rw [IntWalk.i64_left] at hor; rw [hor], HE6⟩
                case measure => simp [intOf]; omega
              · obtain rfl : y = r.length := by omega
                rw [List.take_length]
                have HSN2 := hide (show u ||| bitsOf r = orL P (K.take (j + 1)) from HSN.out.symm)
                go_wp2_with fail
                go_roundw
                case rel => exact ⟨j + 1, by omega, by go_num, by rw [HSN2.out], hide (HE5.out.trans HE6.out)⟩
                case measure => simp [intOf]; omega
          · obtain rfl : j = K.length := by omega
            have HX5 := hide (HE4.out.trans HE5.out)
            have HK5 := hide (own_ext HK4.out HE5.out)
            rw [List.take_length, HOR.out]
            have hu := orB_lt HLT.out s m
            obtain ⟨u, hu2⟩ : ∃ u, orB P s m = u := ⟨_, rfl⟩
            rw [hu2] at hu HFEW ⊢
            have HM2 := hide (show ∀ W, Calls Tryz.prog 47 #[.int .i64 u] W fun e w' => ∃ A c, e = .returned (.slice A (memN u 40).length c) ∧ Ext W w' from fun W => (membersOf_any u 40 W hu (by omega)).mono (by rintro e w' ⟨A, c, rfl, _, h2⟩; exact ⟨A, c, by rw [memI_length], h2⟩))
            have hu40 : (memN u 40).length ≤ 40 := memN_length u 40
            obtain ⟨t, ht⟩ : ∃ t, (memN u 40).length = t := ⟨_, rfl⟩
            rw [ht] at HFEW HM2 hu40
            clear hu2 ht hu
            go_wp2_with fail
            refine (HM2.out _).mono ?_
            rintro e w6 ⟨A6, c6, rfl, hb6⟩
            have HX6 := hide (HE3.out.trans (HX5.out.trans hb6))
            have HX7 := hide (HX5.out.trans hb6)
            have HK6 := hide (own_ext HK5.out hb6)
            have hsz := HE3.out.size
            have hsz2 := HE4.out.size
            clear hb6 HX5 HK5
            by_cases hfew : t < K.length
            · have hfz : (t : Int) < (K.length : Int) := by omega
              obtain rfl := HFY.out (by rw [HFEW.out]; exact decide_eq_true hfew)
              clear HFEW HFN HFY hfew
              go_wp2_with fail
              go_ret
              refine ⟨A4, c4, by rw [castZ_length]; rfl, ?_, HX6.out⟩
              rw [castZ_length]
              exact own_mono HK6.out (by have := HE3.out.size; omega)
            · have hfz : ¬ (t : Int) < (K.length : Int) := by omega
              have HFX := hide (HFN.out (by rw [HFEW.out]; exact decide_eq_false hfew))
              clear HFEW HFN HFY hfew
              go_wp2_with fail
              go_roundw
              case rel => exact ⟨s + 1, by omega, by omega, by go_num, HFX, HX7⟩
              case measure => simp [intOf]; omega
      · obtain rfl : s = M := by omega
        have hV := HF.out
        rw [Nat.sub_self, lackF] at hV
        subst hV
        have HX := hide (HE3.out.trans HE.out)
        go_wp2_with fail
        go_ret
        exact ⟨none, 0, rfl, World.ownsRow_nil _ _ _ _, HX.out⟩
end Go.Proofs.YtabgcpoaepafjaaGreat
namespace Go.Proofs.YtabgcpoaepafjaaGreat
open Go.RowKit
theorem own_pre {w : World} {base n m cap sz g : Nat} {T : TypeId} {xs ys : List Value} (h : w.ownsRow base T sz (.slice (some ⟨g, 0, none⟩) (n + m) cap) (n + m) (xs ++ ys)) (hx : xs.length = n * sz) : w.ownsRow base T sz (.slice (some ⟨g, 0, none⟩) n cap) n xs := by
  rcases h.2 with ⟨q, _⟩ | ⟨g', c, cur, q, h1, h2, h3, h4, h5, h6⟩
  · cases q
  · injection q with q1 _ q3
    injection q1 with q1
    injection q1 with q1
    subst q1 q3
    refine ⟨hx, .inr ⟨g, cap, cur, rfl, h1, h2, by omega, h4, h5, ?_⟩⟩
    have e := congrArg (List.take (n * sz)) h6
    rw [List.take_take, List.take_left' hx, Nat.min_eq_left (Nat.mul_le_mul_right _ (by omega))] at e
    exact e
theorem bestM_le : ∀ (P : List (List Nat)) (used : List Nat), bestM P used ≤ P.length
  | [], _ => Nat.zero_le _
  | r :: P, used => by
    have h := fold_had (g := fun p => 1 + bestM P (used ++ [p])) (q := fun p => used.contains p) r (bestM P used)
    have e : bestM (r :: P) used = r.foldl (fun b p => if used.contains p then b else max b (1 + bestM P (used ++ [p]))) (bestM P used) := rfl
    rw [e]
    simp only [List.length_cons]
    rcases h with h | ⟨p, _, _, h⟩
    · have := bestM_le P used
      rw [h]
      omega
    · have := bestM_le P (used ++ [p])
      rw [h]
      omega
/-- Worlds of a region that copies the list u and appends p to the copy: old memory (below B) stays, short rows stay, and rows that hold u and p stay. -/
structure KB (B : Nat) (u : List Nat) (p : Nat) (w w' : World) : Prop where
  os : w'.os = w.os
  tape : w'.tape = w.tape
  output : w'.output = w.output
  size : w.heap.size ≤ w'.heap.size
  block : ∀ k, k < B → k < w.heap.size → w'.heap[k]? = w.heap[k]?
  pre : ∀ (m : Nat) (xs : List Value) (A : Option Addr) (c : Nat), m ≤ u.length → w.ownsRow B 3 1 (.slice A m c) m xs → w'.ownsRow B 3 1 (.slice A m c) m xs
  ext : ∀ (A : Option Addr) (c : Nat), w.ownsRow B 3 1 (.slice A (u.length + 1) c) (u.length + 1) (encI (castZ (u ++ [p]))) → w'.ownsRow B 3 1 (.slice A (u.length + 1) c) (u.length + 1) (encI (castZ (u ++ [p])))
section
variable {B p : Nat} {u : List Nat} {a b c w w' : World}
theorem KB.trans (h : KB B u p a b) (k : KB B u p b c) : KB B u p a c :=
  ⟨k.os.trans h.os, k.tape.trans h.tape, k.output.trans h.output, Nat.le_trans h.size k.size, fun i hi hi2 => (k.block i hi (Nat.lt_of_lt_of_le hi2 h.size)).trans (h.block i hi hi2), fun m xs A c hm q => k.pre m xs A c hm (h.pre m xs A c hm q), fun A c q => k.ext A c (h.ext A c q)⟩
theorem castZ_snoc (u : List Nat) (p : Nat) : encI (castZ (u ++ [p])) = encI (castZ u) ++ [.int .i64 (p : Int)] := by simp [castZ, encI]
theorem KB.fits {r cp : Nat} (hg : w.grownBy w' (some r)) (hr : B ≤ r) (h0 : w.ownsRow B 3 1 (.slice (some ⟨r, 0, none⟩) u.length cp) u.length (encI (castZ u)))
    (h1 : w'.ownsRow B 3 1 (.slice (some ⟨r, 0, none⟩) (u.length + 1) cp) (u.length + 1) (encI (castZ (u ++ [p])))) : KB B u p w w' := by
  obtain ⟨cs, k1, k2, k3, _⟩ := Blk.of_own h0
  have same : ∀ {m : Nat} {xs : List Value} {A : Option Addr} {c : Nat}, w.ownsRow B 3 1 (.slice A m c) m xs → (Value.slice A m c).ownBlock = some r → A = some ⟨r, 0, none⟩ ∧ c = cp := by
    intro m xs A c q e
    obtain ⟨A2, c2, e1, _, e3, e4⟩ := own_slice q
    injection e1 with e1 _ e2
    subst e1 e2
    cases A with
    | none => cases e
    | some ad =>
      obtain ⟨g, rfl, _, _, _⟩ := e4 ad rfl
      have e : some g = some r := e
      injection e with e
      subst e
      obtain ⟨cs', q1, _, q3, _⟩ := Blk.of_own q
      unfold Blk at k1 q1
      rw [k1] at q1
      injection q1 with q1
      injection q1 with q1
      have : cs = cs' := by simpa using q1
      subst this
      exact ⟨rfl, by omega⟩
  refine ⟨hg.os, hg.tape, hg.output, hg.size, fun k hk hk2 => hg.block k hk2 (fun e => by injection e; omega), fun m xs A c hm q => ?_, fun A c q => ?_⟩
  · by_cases e : (Value.slice A m c).ownBlock = some r
    · obtain ⟨rfl, rfl⟩ := same q e
      have hx : xs = (encI (castZ u)).take m := by
        obtain ⟨cs', q1, q2, _, _⟩ := Blk.of_own q
        unfold Blk at k1 q1
        rw [k1] at q1
        injection q1 with q1
        injection q1 with q1
        have : cs = cs' := by simpa using q1
        subst this
        rw [← q2, ← k2, List.take_take]
        congr 1
        omega
      have hlen : xs.length = m * 1 := q.1
      rw [castZ_snoc] at h1
      have hsplit : encI (castZ u) ++ [Value.int .i64 (p : Int)] = xs ++ ((encI (castZ u)).drop m ++ [Value.int .i64 (p : Int)]) := by rw [hx, ← List.append_assoc, List.take_append_drop]
      rw [hsplit, show u.length + 1 = m + (u.length + 1 - m) by omega] at h1
      exact own_pre h1 hlen
    · exact q.kept hg (.inr e)
  · by_cases e : (Value.slice A (u.length + 1) c).ownBlock = some r
    · obtain ⟨rfl, rfl⟩ := same q e
      exact h1
    · exact q.kept hg (.inr e)
end
end Go.Proofs.YtabgcpoaepafjaaGreat
namespace Go.Proofs.YtabgcpoaepafjaaGreat
open Go.RowKit
/-- The panes that the shapes are given. -/
noncomputable def matchV (N E : List P2) (L : List (List P2)) : List Int := if askB N E L then pickR (plN N E L) [] else []
theorem matchV_yes {N E : List P2} {L : List (List P2)} (h : askB N E L = true) : matchV N E L = pickR (plN N E L) [] := by rw [matchV, if_pos h]
theorem matchV_no {N E : List P2} {L : List (List P2)} (h : askB N E L = false) : matchV N E L = [] := by rw [matchV, if_neg (by simp [h])]
theorem matchV_len (N E : List P2) (L : List (List P2)) : (matchV N E L).length ≤ 8 := by
  unfold matchV
  split
  · rename_i h
    unfold askB at h
    rw [Bool.and_eq_true, decide_eq_true_eq] at h
    rw [pickR_length, plN_length]
    exact h.2
  · simp
theorem SOO.lit {w : World} {base : Nat} {P : List (List Nat)} {v : Value} (h : w.ownsRow base 31 1 v 0 []) : SOO w base v 0 P [] := ⟨h, fun i hi => absurd hi (by omega)⟩
/-- Rows of numbers stay where a block of none of them turns. -/
theorem SOO.kept {w w' : World} {base k g : Nat} {v : Value} {P : List (List Nat)} {hs : List Value} (h : SOO w base v k P hs) (hg : w.grownBy w' (some g)) (hb : g < base) : SOO w' base v k P hs := by
  have keep : ∀ {T : TypeId} {n : Nat} {u : Value} {xs : List Value}, w.ownsRow base T 1 u n xs → w'.ownsRow base T 1 u n xs := fun {T n u xs} q => q.kept hg (by
    cases hu : u.ownBlock with
    | none => exact .inl rfl
    | some x => exact .inr fun e => by have := (q.lt x hu).1; injection e; omega)
  exact ⟨keep h.1, fun i hi => by obtain ⟨B, c, e1, e2⟩ := h.2 i hi; exact ⟨B, c, e1, keep e2⟩⟩
/-- Two lists of a call: the first was laid at its start, the second since a. -/
def TwoR (a w : World) (g0 : Nat) (v : Value) (n : Nat) (xs : List Value) (v' : Value) (n' : Nat) (xs' : List Value) : Prop :=
  OutR a w g0 3 1 v n xs ∧ w.ownsRow a.heap.size 3 1 v' n' xs' ∧ ∀ b, v.ownBlock = some b → v'.ownBlock = some b → False
theorem TwoR.start {w : World} {g0 : Nat} (h : w.ownsRow g0 3 1 (.slice (some ⟨g0, 0, none⟩) 0 0) 0 []) (hg : g0 < w.heap.size) : TwoR w (w.alloc (.cells #[] 3)) g0 (.slice (some ⟨g0, 0, none⟩) 0 0) 0 [] (.slice (some ⟨w.heap.size, 0, none⟩) 0 0) 0 [] :=
  ⟨(OutR.start h (fun k e => by have e : some g0 = some k := e; injection e with e; exact e.symm)).ext ((Ext.refl w).alloc _), lit_own w 3 1, fun b h1 h2 => by
    have h1 : some g0 = some b := h1
    have h2 : some w.heap.size = some b := h2
    injection h1; injection h2; omega⟩
section
variable {a w w1 : World} {g0 n n' m : Nat} {v v' u : Value} {xs xs' ys : List Value}
theorem TwoR.ext (h : TwoR a w g0 v n xs v' n' xs') (hE : Ext w w1) : TwoR a w1 g0 v n xs v' n' xs' := ⟨h.1.ext hE, own_ext h.2.1 hE, h.2.2⟩
theorem TwoR.fst (h : TwoR a w g0 v n xs v' n' xs') {o : Obj} (hown : w1.ownsRow g0 3 1 u m ys) (hg : (w.alloc o).grownBy w1 v.ownBlock) (hl : u.ownBlock = v.ownBlock ∨ u.ownBlock = some (w.alloc o).heap.size) : TwoR a w1 g0 u m ys v' n' xs' := by
  refine ⟨h.1.app hown hg hl, (own_ext h.2.1 ((Ext.refl w).alloc o)).kept hg ?_, fun b h1 h2 => ?_⟩
  · cases hu : v'.ownBlock with
    | none => exact .inl rfl
    | some x => exact .inr fun e => h.2.2 x e.symm hu
  · rcases hl with q | q
    · exact h.2.2 b (by rw [← q]; exact h1) h2
    · rw [q] at h1
      injection h1 with h1
      have := (h.2.1.lt b h2).2
      have := ((Ext.refl w).alloc o).size
      omega
theorem TwoR.snd (h : TwoR a w g0 v n xs v' n' xs') {o : Obj} (hown : w1.ownsRow a.heap.size 3 1 u m ys) (hg : (w.alloc o).grownBy w1 v'.ownBlock) (hl : u.ownBlock = v'.ownBlock ∨ u.ownBlock = some (w.alloc o).heap.size) : TwoR a w1 g0 v n xs u m ys := by
  have h1 := h.1.ext ((Ext.refl w).alloc o)
  refine ⟨⟨h1.1.kept hg ?_, grow_carry h1.2.1 hg fun g e => .inr (h.2.1.lt g e).1, h1.2.2⟩, hown, fun b e1 e2 => ?_⟩
  · cases hu : v.ownBlock with
    | none => exact .inl rfl
    | some x => exact .inr fun e => h.2.2 x hu e.symm
  · rcases hl with q | q
    · exact h.2.2 b e1 (by rw [← q]; exact e2)
    · rw [q] at e2
      injection e2 with e2
      have := (h.1.1.lt b e1).2
      have := ((Ext.refl w).alloc o).size
      omega
end
/-- The number found among the first j. -/
def FindI (r : List Nat) (T : Nat → Bool) (j : Nat) (f : Int) : Prop := (f = -1 ∧ ∀ x ∈ r.take j, T x = false) ∨ ∃ p : Nat, f = (p : Int) ∧ r.find? T = some p
theorem FindI.start (r : List Nat) (T : Nat → Bool) : FindI r T 0 (-1) := .inl ⟨rfl, by simp⟩
theorem FindI.no {r : List Nat} {T : Nat → Bool} {j : Nat} {f : Int} (h : FindI r T j f) (hj : j < r.length) (hf : f < 0) (ht : T r[j] = false) : FindI r T (j + 1) f := by
  rcases h with ⟨rfl, h⟩ | ⟨p, rfl, _⟩
  · refine .inl ⟨rfl, fun x hx => ?_⟩
    rw [List.take_succ_eq_append_getElem hj] at hx
    rcases List.mem_append.1 hx with q | q
    · exact h x q
    · rw [List.mem_singleton] at q
      rw [q]
      exact ht
  · omega
theorem FindI.yes {r : List Nat} {T : Nat → Bool} {j : Nat} {f : Int} (h : FindI r T j f) (hj : j < r.length) (hf : f < 0) (ht : T r[j] = true) : FindI r T (j + 1) (r[j] : Nat) := by
  rcases h with ⟨rfl, h⟩ | ⟨p, rfl, _⟩
  · refine .inr ⟨r[j], rfl, ?_⟩
    rw [List.find?_eq_some_iff_append]
    refine ⟨ht, r.take j, r.drop (j + 1), ?_, fun x hx => by simp [h x hx]⟩
    rw [List.getElem_cons_drop, List.take_append_drop]
  · omega
theorem FindI.none {r : List Nat} {T : Nat → Bool} {f : Int} (h : FindI r T r.length f) (hf : f < 0) : f = -1 ∧ r.find? T = Option.none := by
  rcases h with ⟨rfl, h⟩ | ⟨p, rfl, _⟩
  · exact ⟨rfl, List.find?_eq_none.2 fun x hx => by simp [h x (by simpa using hx)]⟩
  · omega
theorem FindI.some {r : List Nat} {T : Nat → Bool} {j : Nat} {f : Int} (h : FindI r T j f) (hf : ¬ f < 0) : ∃ p : Nat, f = (p : Int) ∧ r.find? T = Option.some p := by
  rcases h with ⟨rfl, h⟩ | h
  · omega
  · exact h
theorem pickR_yes {r : List Nat} {Q : List (List Nat)} {used : List Nat} {p : Nat} (h : pickOf r Q used = some p) : pickR (r :: Q) used = (p : Int) :: pickR Q (used ++ [p]) := by rw [pickR, h]
theorem pickR_none {r : List Nat} {Q : List (List Nat)} {used : List Nat} (h : pickOf r Q used = none) : pickR (r :: Q) used = (-1) :: pickR Q used := by rw [pickR, h]
theorem encI_snoc (l : List Int) (x : Int) : encI (l ++ [x]) = encI l ++ [.int .i64 x] := by simp [encI]
end Go.Proofs.YtabgcpoaepafjaaGreat
namespace Go.Proofs.YtabgcpoaepafjaaGreat
theorem ask_whole {N E : List P2} {L : List (List P2)} (h : askB N E L = true) : wholeB N E = true ∧ L.length ≤ 8 := by
  unfold askB at h
  rw [Bool.and_eq_true, decide_eq_true_eq] at h
  exact h
theorem match_length {N E : List P2} {L : List (List P2)} (h : askB N E L = true) : (matchV N E L).length = L.length := by
  rw [matchV_yes h, pickR_length, plN_length]
theorem match_count {N E : List P2} {L : List (List P2)} (h : askB N E L = true) : countNN (matchV N E L) = bestM (plN N E L) [] := by
  rw [matchV_yes h]
  exact pickR_count _ _
theorem match_lack {N E : List P2} {L : List (List P2)} (h : askB N E L = true) : countNN (matchV N E L) = L.length ↔ (lackV N E L).length = 0 := by
  rw [match_count h, lackV_yes h, List.length_eq_zero_iff, lackM_nil (plN_lt N E L), plN_length]
theorem places_in {N E : List P2} {L : List (List P2)} {k p : Nat} (hp : p ∈ (plN N E L).getD k []) : p ∈ pansN N E ∧ ∃ S, L[k]? = some S ∧ fillB N E (p : Nat) S = true := by
  by_cases hk : k < L.length
  · rw [plN_at hk] at hp
    obtain ⟨h1, h2⟩ := List.mem_filter.1 hp
    exact ⟨h1, L[k], List.getElem?_eq_getElem hk, h2⟩
  · rw [List.getD_eq_getElem?_getD, List.getElem?_eq_none (by rw [plN_length]; omega)] at hp
    simp at hp
/-- A pick is a pane that the shape fills. -/
theorem match_at {N E : List P2} {L : List (List P2)} {k : Nat} {x : Int} (h : askB N E L = true) (hk : k < L.length) (hx : (matchV N E L)[k]? = some x) : -1 ≤ x ∧ (0 ≤ x → fillB N E x L[k] = true) := by
  rw [matchV_yes h] at hx
  rcases pickR_at _ _ _ _ hx with rfl | ⟨p, h1, rfl, _⟩
  · exact ⟨by omega, fun h => by omega⟩
  · obtain ⟨_, S, q1, q2⟩ := places_in h1
    rw [List.getElem?_eq_getElem hk] at q1
    cases q1
    exact ⟨by omega, fun _ => q2⟩
theorem match_apart {N E : List P2} {L : List (List P2)} {i k : Nat} {x y : Int} (h : askB N E L = true) (hik : i < k) (hx : (matchV N E L)[i]? = some x) (hy : (matchV N E L)[k]? = some y) (h0 : 0 ≤ y) : x ≠ y := by
  rw [matchV_yes h] at hx hy
  exact pickR_apart _ _ i k x y hik hx hy h0
theorem lack_mem {N E : List P2} {L : List (List P2)} {x : Int} (h : askB N E L = true) (hx : x ∈ lackV N E L) : 0 ≤ x ∧ x < L.length := by
  rw [lackV_yes h] at hx
  have := lackM_mem x hx
  rwa [plN_length] at this
theorem match_few {N E : List P2} {L : List (List P2)} (h : askB N E L = true) : countNN (matchV N E L) ≤ (pansN N E).length := by
  rw [match_count h]
  exact pick_few fun k p hp => (places_in hp).1
/-- The places that have been laid up: each once, each a place of a shape that lacks. -/
structure Laid (N E : List P2) (L : List (List P2)) (Q : List Int) : Prop where
  nd : Q.Nodup
  of : ∀ x ∈ Q, ∃ (i : Nat) (hi : i < L.length), (i : Int) ∈ lackV N E L ∧ x ∈ castZ (placesN N E L[i])
theorem Laid.nil {N E : List P2} {L : List (List P2)} : Laid N E L [] := ⟨by simp, fun x hx => by cases hx⟩
theorem Laid.app {N E : List P2} {L : List (List P2)} {Q : List Int} (h : Laid N E L Q) {i : Nat} (hi : i < L.length) (hl : (i : Int) ∈ lackV N E L) {x : Int} (hx : x ∈ castZ (placesN N E L[i])) (hn : x ∉ Q) : Laid N E L (Q ++ [x]) := by
  refine ⟨List.nodup_append.2 ⟨h.nd, by simp, fun a ha b hb => ?_⟩, fun y hy => ?_⟩
  · rw [List.mem_singleton] at hb
    rintro rfl
    exact hn (hb ▸ ha)
  · rcases List.mem_append.1 hy with hy | hy
    · exact h.of y hy
    · rw [List.mem_singleton] at hy
      subst hy
      exact ⟨i, hi, hl, hx⟩
theorem Laid.few {N E : List P2} {L : List (List P2)} {Q : List Int} (h : Laid N E L Q) (ha : askB N E L = true) (hne : (lackV N E L).length ≠ 0) : Q.length < (lackV N E L).length := by
  have hv := lackV_yes ha
  rw [hv] at hne ⊢
  refine few_places (plN_lt N E L) (fun e => hne (by rw [e]; rfl)) h.nd fun x hx => ?_
  obtain ⟨i, hi, h1, h2⟩ := h.of x hx
  obtain ⟨p, hp, rfl⟩ := List.mem_map.1 h2
  rw [hv] at h1
  exact ⟨(i : Int), h1, p, by rw [Int.toNat_natCast, plN_at hi]; exact hp, rfl⟩
/-- Few numbers, all below 40. -/
theorem Laid.len {N E : List P2} {L : List (List P2)} {Q : List Int} (h : Laid N E L Q) : Q.length ≤ 40 := by
  have := nodup_le Q (castZ (List.range 40)) h.nd fun x hx => by
    obtain ⟨i, hi, _, h2⟩ := h.of x hx
    obtain ⟨p, hp, rfl⟩ := List.mem_map.1 h2
    refine List.mem_map.2 ⟨p, List.mem_range.2 ?_, rfl⟩
    exact plN_lt N E L _ (List.mem_map.2 ⟨L[i], List.getElem_mem hi, rfl⟩) p hp
  rw [castZ_length, List.length_range] at this
  exact this
/-- A pane takes its own shape. -/
theorem own_place {N E : List P2} (h : wholeB N E = true) (hk : 0 < (pansN N E).length) : (((pansN N E)[0] : Nat) : Int) ∈ castZ (placesN N E (shapeV N E ((pansN N E)[0] : Nat))) := by
  refine List.mem_map.2 ⟨(pansN N E)[0], List.mem_filter.2 ⟨List.getElem_mem hk, ?_⟩, rfl⟩
  unfold fillB
  rw [(pansN_mem hk).2, alike_self (ds_pane h hk).ns]
  rfl
end Go.Proofs.YtabgcpoaepafjaaGreat
namespace Go.Proofs.YtabgcpoaepafjaaGreat
open Go.RowKit Go.Maps
/-- The map of block b, written at most n times, reads as H. -/
def MapH (w : World) (b n : Nat) (H : Nat → Option Nat) : Prop :=
  ∃ D : DataW Unit, w.ownsMap Tryz.prog 3 (plainElem Tryz.prog 3) b n D ∧ ∀ f : Nat, f < 64 → has D (.int .i64 (f : Int)) = (H f).isSome ∧ ∀ i, H f = some i → D.atKey (.int .i64 (f : Int)) (.lit (.int .i64 0)) = .lit (.int .i64 (i : Int))
section
variable {w w' : World} {b n : Nat} {H : Nat → Option Nat}
theorem MapH.made (w : World) : MapH (w.alloc (.map #[] 0)) w.heap.size 0 (fun _ => none) :=
  ⟨.map [], World.ownsMap_made w Tryz.prog 3 (plainElem Tryz.prog 3), fun f _ => ⟨rfl, fun i h => by cases h⟩⟩
theorem MapH.kept (h : MapH w b n H) {row : Option Nat} (hg : w.grownBy w' row) (hne : some b ≠ row) : MapH w' b n H := by
  obtain ⟨D, h1, h2⟩ := h
  exact ⟨D, h1.kept hg hne, h2⟩
theorem MapH.setCell (h : MapH w b n H) {a : Addr} (ha : b ≠ a.block) (u : Value) : MapH (w.setCell a u) b n H := by
  obtain ⟨D, h1, h2⟩ := h
  exact ⟨D, h1.setCell ha u, h2⟩
theorem MapH.mono (h : MapH w b n H) {m : Nat} (hn : n ≤ m) : MapH w b m H := by
  obtain ⟨D, h1, h2⟩ := h
  exact ⟨D, h1.mono hn, h2⟩
theorem MapH.put {D : DataW Unit} {f i : Nat} (hm : IsMap D) (h : ∀ f : Nat, f < 64 → has D (.int .i64 (f : Int)) = (H f).isSome ∧ ∀ i, H f = some i → D.atKey (.int .i64 (f : Int)) (.lit (.int .i64 0)) = .lit (.int .i64 (i : Int)))
    (hw : w'.ownsMap Tryz.prog 3 (plainElem Tryz.prog 3) b n (D.put (.int .i64 (f : Int)) (.lit (.int .i64 (i : Int))))) (hk : WideAt.IsKeyLit (.int .i64 (f : Int))) : MapH w' b n (put H f i) := by
  refine ⟨_, hw, fun g hg => ?_⟩
  by_cases e : g = f
  · subst e
    rw [put_same]
    exact ⟨has_put_same hm hk _, fun j hj => by injection hj with hj; rw [atKey_put_same hm hk, hj]⟩
  · have hne : (Lit.int .i64 (g : Int)) ≠ .int .i64 (f : Int) := by intro q; injection q with _ q; omega
    rw [put_ne e]
    exact ⟨(has_put_other hne _).trans (h g hg).1, fun j hj => (atKey_put_other hne _ _).trans ((h g hg).2 j hj)⟩
end
end Go.Proofs.YtabgcpoaepafjaaGreat
