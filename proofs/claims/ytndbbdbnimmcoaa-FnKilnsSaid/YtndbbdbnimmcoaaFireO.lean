/- Walks of the order of firing, the program's form. No condition but that a list has at most 1048576 elements. -/
import Derived.Test.YtndbbdbnimmcoaaKilnO
import Derived.Test.YtndbbdbnimmcoaaKilnS
import Derived.Test.YtndbbdbnimmcoaaInsD
import Derived.Sort.OwnSortedInts
set_option linter.unusedSimpArgs false
set_option linter.unusedVariables false
namespace Go.Proofs.Ytndbbdbnimmcoaa
open Go.RowKit

set_option maxHeartbeats 1000000 in
theorem cmp_any (L : List P3) (A : Option Addr) (c gb : Nat) (x y : Nat) (w : World) (hL : ∀ s ∈ L, 400 ≤ s.1 ∧ s.1 ≤ 900 ∧ 1 ≤ s.2.1 ∧ s.2.1 ≤ 24) (hx : x < L.length) (hy : y < L.length) (hb : w.cell? ⟨gb, 0, none⟩ = some (.slice A L.length c)) (hr : R3 w A L) :
    Calls Try.prog 19 #[.int .i64 x, .int .i64 y, .pointer (some ⟨gb, 0, none⟩)] w fun e w' => e = .returned (.int .i64 (cmpF L x y)) ∧ ∃ q, w' = w.drewN q := by
  obtain ⟨b, off, rfl, hb1, e0, e1, e2⟩ := R3.at_ hr hx
  obtain ⟨b', off', hA, _, d0, d1, d2⟩ := R3.at_ hr hy
  injection hA with hA
  injection hA with hA1 hA2 _
  subst hA1 hA2
  have B1 := hL _ (List.getElem_mem hx)
  have B2 := hL _ (List.getElem_mem hy)
  have HC : Hid (cmpF L x y = if L[x].1 = L[y].1 then L[x].2.1 - L[y].2.1 else L[y].1 - L[x].1) := hide (by unfold cmpF; rw [paneAt_eq hx, paneAt_eq hy])
  obtain ⟨p1, hp1⟩ : ∃ q, L[x].1 = q := ⟨_, rfl⟩
  obtain ⟨p2, hp2⟩ : ∃ q, L[x].2.1 = q := ⟨_, rfl⟩
  obtain ⟨q1, hq1⟩ : ∃ q, L[y].1 = q := ⟨_, rfl⟩
  obtain ⟨q2, hq2⟩ : ∃ q, L[y].2.1 = q := ⟨_, rfl⟩
  have hc2 := HC.out
  rw [hp1, hp2, hq1, hq2] at hc2
  rw [hp1] at e0
  rw [hp2] at e1
  rw [hq1] at d0
  rw [hq2] at d1
  rw [hp1, hp2] at B1
  rw [hq1, hq2] at B2
  have HC := hide hc2
  clear hc2 hp1 hp2 hq1 hq2 hr e2 d2
  by_cases h : p1 = q1
  · subst h
    have hw : IntKind.i64.wrap (p2 - q2) = p2 - q2 := IntWalk.i64_in _ (by omega)
    go_enter Try.func19, Try.ntmps19
    go_wp2_with fail
    go_quiet (fail)
    go_wp2_with fail
    go_quiet (fail)
    go_wp2_with fail
    go_ret
    exact ⟨ret_int (by rw [HC.out]; simp), _, World.drewN_drewN _ _ _⟩
  · have hw : IntKind.i64.wrap (q1 - p1) = q1 - p1 := IntWalk.i64_in _ (by omega)
    go_enter Try.func19, Try.ntmps19
    go_wp2_with fail
    go_quiet (fail)
    go_wp2_with fail
    go_quiet (fail)
    go_wp2_with fail
    go_ret
    exact ⟨ret_int (by rw [HC.out, if_neg h]), _, World.drewN_drewN _ _ _⟩

def orderI (L : List P3) (n : Nat) : List Int := (order L n).map fun x : Nat => (x : Int)
theorem orderI_length (L : List P3) (n : Nat) : (orderI L n).length = n := by rw [orderI, List.length_map, order_length]
def idsI (n : Nat) : List Int := (List.range n).map fun x : Nat => (x : Int)
theorem idsI_length (n : Nat) : (idsI n).length = n := by simp [idsI]
section
open Go.Sort Go.Shelf
variable {n : Nat}
def encF (x : Fin n) : Value := .int .i64 (x.val : Int)
theorem fins_map (n : Nat) : (List.finRange n).map (fun x : Fin n => x.val) = List.range n := by
  refine List.ext_getElem (by simp) (fun i h1 h2 => by simp)
theorem sorted_fins (L : List P3) (n : Nat) : ((insAll (fun x y : Fin n => ltF L x.val y.val) (List.finRange n) []).reverse.map encF) = encI (orderI L n) := by
  have h := insAll_map (lt := fun x y : Fin n => ltF L x.val y.val) (lt' := ltF L) (f := fun x : Fin n => x.val) (fun _ _ => rfl) (List.finRange n) []
  rw [fins_map] at h
  unfold orderI order orderR encI
  rw [← List.map_nil (f := fun x : Fin n => x.val), ← h, List.map_map, ← List.map_reverse, List.map_map]
  rfl
theorem fins_enc (n : Nat) : (List.finRange n).map encF = encI (idsI n) := by
  unfold encI idsI
  rw [List.map_map, ← fins_map n, List.map_map]
  rfl
theorem put_all {α : Type} [Inhabited α] (enc : α → Value) (l : List α) (cur : Array Value) (h : cur.size = l.length) : putCells enc 0 l.toArray cur = (l.map enc).toArray := by
  apply Array.ext_getElem?
  intro j
  by_cases hj : j < l.length
  · simp [putCells, hj, show j < cur.size by omega]
  · simp [putCells, hj, show ¬ j < cur.size by omega]
theorem sort_heap {α : Type} [Inhabited α] (enc : α → Value) (W : World) (blk m : Nat) (dk : Array α) (os : Array Obj) {k : Nat} (hk : k < W.heap.size) (hne : k ≠ blk) : (sortWorld enc W blk 0 m dk os).heap[k]? = W.heap[k]? := by
  unfold sortWorld
  rw [heap_grow_old _ _ (by simpa using hk)]
  simp [putRow, mapBlock, Sort.ahead, Array.getElem?_modify, Ne.symm hne]
theorem put_heap {α : Type} [Inhabited α] (enc : α → Value) (W : World) (blk : Nat) (dk : Array α) {k : Nat} (hne : k ≠ blk) : (putRow enc W blk 0 dk).heap[k]? = W.heap[k]? := by
  simp [putRow, mapBlock, Array.getElem?_modify, Ne.symm hne]
theorem cmp_reads (L : List P3) (A : Option Addr) (c gb blk size : Nat) (W : World) (hn : n = L.length) (h0 : 0 < n) (hL : ∀ s ∈ L, 400 ≤ s.1 ∧ s.1 ≤ 900 ∧ 1 ≤ s.2.1 ∧ s.2.1 ≤ 24) (hb : W.cell? ⟨gb, 0, none⟩ = some (.slice A L.length c)) (hr : R3 W A L)
    (hgz : gb < W.heap.size) (hgb : gb ≠ blk) (hA : ∀ b off, A = some ⟨b, off, none⟩ → b ≠ blk) :
    haveI : Inhabited (Fin n) := ⟨⟨0, h0⟩⟩
    CmpReads Try.prog 19 #[.pointer (some ⟨gb, 0, none⟩)] (encF (n := n)) (fun x y => cmpF L x.val y.val) blk 0 size W := by
  letI : Inhabited (Fin n) := ⟨⟨0, h0⟩⟩
  intro m os dk hs x y
  have hx : x.val < L.length := by rw [← hn]; exact x.isLt
  have hy : y.val < L.length := by rw [← hn]; exact y.isLt
  refine cmp_any L A c gb x.val y.val _ hL hx hy ?_ ?_
  · rw [← hb]
    simp only [World.cell?]
    rw [sort_heap _ _ _ _ _ _ hgz hgb]
  · refine hr.keep ?_ (fun b off e _ hlt => sort_heap _ _ _ _ _ _ hlt (hA b off e))
    unfold sortWorld
    simp [Sort.ahead]
theorem sort_ids (L : List P3) (A : Option Addr) (c gb blk : Nat) (W : World) (hn : n = L.length) (h0 : 0 < n) (h10 : n ≤ 10) (hL : ∀ s ∈ L, 400 ≤ s.1 ∧ s.1 ≤ 900 ∧ 1 ≤ s.2.1 ∧ s.2.1 ≤ 24) (hb : W.cell? ⟨gb, 0, none⟩ = some (.slice A L.length c)) (hr : R3 W A L)
    (hgz : gb < W.heap.size) (hgb : gb ≠ blk) (hA : ∀ b off, A = some ⟨b, off, none⟩ → b ≠ blk) (hblk : Blk W blk 3 (encI (idsI n))) :
    Calls Try.prog 26 #[.slice (some ⟨blk, 0, none⟩) n n, .int .i64 0, .int .i64 n, .func (.func 19) #[] #[.pointer (some ⟨gb, 0, none⟩)]] W fun e w' => e = .returned (.tuple #[]) ∧ Blk w' blk 3 (encI (orderI L n)) ∧ W.grownBy w' (some blk) := by
  letI : Inhabited (Fin n) := ⟨⟨0, h0⟩⟩
  have hsz : (List.finRange n).toArray.size = n := by simp
  have hH : Holds (encF (n := n)) W blk 0 (List.finRange n).toArray := by
    intro j hj
    have hj' : j < n := by simpa using hj
    refine ⟨?_, hblk.free _⟩
    rw [Nat.zero_add, hblk.cell j, ← fins_enc n]
    simp [hj', getElem!_def]
  have eg : ∀ args w, (callFunc 19 args).run Try.prog w = .ok (.enter 19 args) w := enters_of Try.func19 (by kernel_rfl) rfl
  have hS := Any.insertionSortCmpFunc_one Try.insL (encF (n := n)) (fun _ => rfl) (fun x y => cmpF L x.val y.val) 19 #[.pointer (some ⟨gb, 0, none⟩)] blk 0 n 0 n (List.finRange n).toArray W eg
    (cmp_reads L A c gb blk _ W hn h0 hL hb hr hgz hgb hA) hH (Nat.zero_le _) (by rw [hsz]; exact Nat.le_refl _) (by rw [hsz]; omega)
  have hlt : (ltOf fun x y : Fin n => cmpF L x.val y.val) = fun x y : Fin n => ltF L x.val y.val := rfl
  have hI := insertionSort_list (fun x y : Fin n => ltF L x.val y.val) (List.finRange n)
  rw [List.length_finRange] at hI
  rw [hlt, hI, hsz] at hS
  change Calls Try.prog 26 _ _ _ at hS
  refine hS.mono ?_
  rintro e w' ⟨rfl, q, rfl⟩
  have hb2 : W.heap[blk]? = some (.cells (encI (idsI n)).toArray 3 (0, 0)) := hblk
  have hlen : (insAll (fun x y : Fin n => ltF L x.val y.val) (List.finRange n) []).reverse.length = n := by
    have := congrArg List.length (sorted_fins L n)
    rw [List.length_map, encI_length, orderI_length] at this
    exact this
  refine ⟨rfl, ?_, ?_⟩
  · show (putRow encF W blk 0 _).heap[blk]? = _
    have : (putRow (encF (n := n)) W blk 0 (insAll (fun x y : Fin n => ltF L x.val y.val) (List.finRange n) []).reverse.toArray).heap[blk]? = some (.cells (putCells encF 0 (insAll (fun x y : Fin n => ltF L x.val y.val) (List.finRange n) []).reverse.toArray (encI (idsI n)).toArray) 3 (0, 0)) := by
      simp only [putRow, mapBlock, Array.getElem?_modify, hb2]
      simp
      rfl
    rw [this, put_all _ _ _ (by rw [hlen]; simp [encI, idsI]), sorted_fins]
  · exact ⟨rfl, rfl, rfl, by simp, fun k _ hne => put_heap _ _ _ _ (fun e => hne (by rw [e]))⟩
theorem sort_any (L : List P3) (A : Option Addr) (c gb blk : Nat) (W : World) (h10 : L.length ≤ 10) (hL : ∀ s ∈ L, 400 ≤ s.1 ∧ s.1 ≤ 900 ∧ 1 ≤ s.2.1 ∧ s.2.1 ≤ 24) (hb : W.cell? ⟨gb, 0, none⟩ = some (.slice A L.length c)) (hr : R3 W A L)
    (hgz : gb < W.heap.size) (hgb : gb ≠ blk) (hA : 0 < L.length → ∀ b off, A = some ⟨b, off, none⟩ → b ≠ blk) (hblk : Blk W blk 3 (encI (idsI L.length))) :
    Calls Try.prog 26 #[.slice (some ⟨blk, 0, none⟩) L.length L.length, .int .i64 0, .int .i64 L.length, .func (.func 19) #[] #[.pointer (some ⟨gb, 0, none⟩)]] W fun e w' => e = .returned (.tuple #[]) ∧ Blk w' blk 3 (encI (orderI L L.length)) ∧ W.grownBy w' (some blk) := by
  rcases Nat.eq_zero_or_pos L.length with h0 | h0
  · have h := AnyF.insertionSortCmpFunc_none (P := Try.prog) (ρ := Try.insL_ren) { Try.insL with } (some ⟨blk, 0, none⟩) 0 (.func (.func 19) #[] #[.pointer (some ⟨gb, 0, none⟩)]) W
    change Calls Try.prog 26 _ _ _ at h
    rw [h0] at hblk ⊢
    refine h.mono ?_
    rintro e w' ⟨rfl, rfl⟩
    exact ⟨rfl, hblk, World.grownBy.refl _ _⟩
  · exact sort_ids L A c gb blk W rfl h0 h10 hL hb hr hgz hgb (hA h0) hblk
end
set_option maxHeartbeats 1000000 in
theorem stable_any (L : List P3) (A : Option Addr) (c gb blk : Nat) (W : World) (h10 : L.length ≤ 10) (hL : ∀ s ∈ L, 400 ≤ s.1 ∧ s.1 ≤ 900 ∧ 1 ≤ s.2.1 ∧ s.2.1 ≤ 24) (hb : W.cell? ⟨gb, 0, none⟩ = some (.slice A L.length c)) (hr : R3 W A L)
    (hgz : gb < W.heap.size) (hgb : gb ≠ blk) (hA : 0 < L.length → ∀ b off, A = some ⟨b, off, none⟩ → b ≠ blk) (hblk : Blk W blk 3 (encI (idsI L.length))) :
    Calls Try.prog 24 #[.slice (some ⟨blk, 0, none⟩) L.length L.length, .int .i64 L.length, .func (.func 19) #[] #[.pointer (some ⟨gb, 0, none⟩)]] W fun e w' => e = .returned (.tuple #[]) ∧ Blk w' blk 3 (encI (orderI L L.length)) ∧ W.grownBy w' (some blk) := by
  have HS := hide (sort_any L A c gb blk W h10 hL hb hr hgz hgb hA hblk)
  clear hb hr hgz hgb hA hblk hL
  go_enter Try.func24, Try.ntmps24
  go_wp2_with fail
  go_loopw [7, 8] (fun a b wr => a = .int .i64 0 ∧ b = .int .i64 20 ∧ wr = W) (fun _ _ _ => 0)
  case atStart => exact ⟨rfl, rfl, rfl⟩
  case round =>
    obtain ⟨rfl, rfl, rfl⟩ := hrel
    go_wp2_with fail
    refine HS.out.mono ?_; rintro e w2 ⟨rfl, hB, hG⟩
    have HB := hide hB
    have HG := hide hG
    clear hB hG
    go_wp2_with fail
    go_loopw [6] (fun s wr => s = .int .i64 20 ∧ wr = w2) (fun _ _ => 0)
    case atStart => exact ⟨rfl, rfl⟩
    case round =>
      obtain ⟨rfl, rfl⟩ := hrel
      go_wp2_with fail
      go_end0
      exact ⟨rfl, HB.out, HG.out⟩
theorem SortStable_any (L : List P3) (A : Option Addr) (c gb blk : Nat) (W : World) (h10 : L.length ≤ 10) (hL : ∀ s ∈ L, 400 ≤ s.1 ∧ s.1 ≤ 900 ∧ 1 ≤ s.2.1 ∧ s.2.1 ≤ 24) (hb : W.cell? ⟨gb, 0, none⟩ = some (.slice A L.length c)) (hr : R3 W A L)
    (hgz : gb < W.heap.size) (hgb : gb ≠ blk) (hA : 0 < L.length → ∀ b off, A = some ⟨b, off, none⟩ → b ≠ blk) (hblk : Blk W blk 3 (encI (idsI L.length))) :
    Calls Try.prog 18 #[.slice (some ⟨blk, 0, none⟩) L.length L.length, .func (.func 19) #[] #[.pointer (some ⟨gb, 0, none⟩)]] W fun e w' => e = .returned (.tuple #[]) ∧ Blk w' blk 3 (encI (orderI L L.length)) ∧ W.grownBy w' (some blk) := by
  have HS := hide (stable_any L A c gb blk W h10 hL hb hr hgz hgb hA hblk)
  clear hb hr hgz hgb hA hblk hL
  go_enter Try.func18, Try.ntmps18
  go_wp2_with fail
  refine HS.out.mono ?_; rintro e w2 ⟨rfl, hB, hG⟩
  have HB := hide hB
  have HG := hide hG
  clear hB hG
  go_wp2_with fail
  go_end0
  exact ⟨rfl, HB.out, HG.out⟩
end Go.Proofs.Ytndbbdbnimmcoaa
