/- agenda: how two entries are held against each other (cmp.Compare, cmp.Or, entry.order, row.Less). agenda: the row's own methods (Swap, Len, Push, Pop). container/heap over the agenda's row: up, down, Push, Remove. -/
import Derived.Test.YtnippamifihdpaaGreatDoorKBase
import Derived.Test.YtnippamifihdpaaGreatDoorKHeap
import Derived.Deep.RegionHeld3
import Derived.KernelRfl
namespace Go.Proofs.YtnippamifihdpaaGreatDoor
open Go Go.RowKit

/-- What cmp.Compare answers at ints. -/
def cmpI (a b : Int) : Int := if a < b then -1 else if b < a then 1 else 0

set_option maxHeartbeats 400000 in
theorem compare_any (a b : Int) (w : World) :
    Calls Tryz.prog 228 #[.int .i64 a, .int .i64 b] w fun e w' => e = .returned (.int .i64 (cmpI a b)) ∧ w = w' := by
  go_enter Tryz.func228, Tryz.ntmps228
  by_cases h : a < b
  · go_wp2
    go_ret
    exact ⟨ret_int (by rw [cmpI, if_pos h]), rfl⟩
  · by_cases h2 : b < a
    · go_wp2
      go_ret
      exact ⟨ret_int (by rw [cmpI, if_neg (by omega), if_pos h2]), rfl⟩
    · go_wp2
      go_ret
      exact ⟨ret_int (by rw [cmpI, if_neg (by omega), if_neg (by omega)]), rfl⟩

/-- What cmp.Or answers of two ints. -/
def orI (a b : Int) : Int := if a = 0 then b else a

set_option maxHeartbeats 1000000 in
theorem or_any (g : Nat) (a b : Int) (w : World) (hg : Blk w g #[.int .i64 a, .int .i64 b] 3) :
    Calls Tryz.prog 227 #[.slice (some ⟨g, 0, none⟩) 2 2] w fun e w' => e = .returned (.int .i64 (orI a b)) ∧ w = w' := by
  have h0 := hg.cell 0
  have h1 := hg.cell 1
  clear hg
  simp at h0 h1
  by_cases ha : a = 0
  · subst ha
    by_cases hb : b = 0
    · subst hb
      go_enter Tryz.func227, Tryz.ntmps227
      go_wp2
      refine wp_loop_rounds 3 ?_
      rw [rounds_succ]
      go_wp2
      rw [rounds_succ]
      go_wp2
      rw [rounds_succ]
      go_wp2
      go_ret
      exact ⟨ret_int (by simp [orI]), rfl⟩
    · have hb' : (b != 0) = true := by simp [hb]
      go_enter Tryz.func227, Tryz.ntmps227
      go_wp2
      refine wp_loop_rounds 3 ?_
      rw [rounds_succ]
      go_wp2
      rw [rounds_succ]
      go_wp2
      go_ret
      exact ⟨ret_int (by simp [orI]), rfl⟩
  · have ha' : (a != 0) = true := by simp [ha]
    go_enter Tryz.func227, Tryz.ntmps227
    go_wp2
    refine wp_loop_rounds 3 ?_
    rw [rounds_succ]
    go_wp2
    go_ret
    exact ⟨ret_int (by rw [orI, if_neg ha]), rfl⟩

/-- What entry.order answers. -/
def ordI (e f : Ent) : Int := orI (cmpI e.at_ f.at_) (cmpI e.turn f.turn)
theorem ordI_neg (e f : Ent) : ordI e f < 0 ↔ e.lt f := by
  unfold ordI orI cmpI Ent.lt
  repeat' split
  all_goals omega

/-- An entry's block. -/
abbrev EntCells (e : Ent) (place : Int) : Array Value := #[.int .i64 e.id, .int .i64 e.at_, .int .i64 e.turn, .int .i64 place]

set_option maxHeartbeats 1000000 in
theorem order_any (b c : Nat) (e f : Ent) (p q : Int) (w : World) (hb : Blk w b (EntCells e p) 213) (hc : Blk w c (EntCells f q) 213) :
    Calls Tryz.prog 165 #[.pointer (some ⟨b, 0, none⟩), .pointer (some ⟨c, 0, none⟩)] w fun r w' => r = .returned (.int .i64 (ordI e f)) ∧ Ext w w' := by
  have b1 := hb.cell 1
  have b2 := hb.cell 2
  have c1 := hc.cell 1
  have c2 := hc.cell 2
  have lb := hb.lt
  have lc := hc.lt
  clear hb hc
  simp at b1 b2 c1 c2
  go_enter Tryz.func165, Tryz.ntmps165
  go_wp2_with fail
  go_region_held3 (fun w' => w'.cell? ⟨b, 1, none⟩ = some (.int .i64 e.at_) ∧ w'.cell? ⟨b, 2, none⟩ = some (.int .i64 e.turn) ∧ w'.cell? ⟨c, 1, none⟩ = some (.int .i64 f.at_) ∧ w'.cell? ⟨c, 2, none⟩ = some (.int .i64 f.turn)) (go_keep)
    (first | (go_at_call 228; refine (compare_any _ _ _).mono ?_; rintro e w' ⟨rfl, rfl⟩) | (go_at_call 227; refine (or_any _ (cmpI e.at_ f.at_) (cmpI e.turn f.turn) _ ?_).mono ?_; (exact Blk.new_drew _ _ _); rintro e w' ⟨rfl, rfl⟩))
  go_wp2
  go_ret
  exact ⟨rfl, ((Ext.refl w).alloc _).drew⟩

/-- The row of a heap: a slice of pointers to entries, each of which knows its place. -/
structure AgRow (w : World) (v : Value) (row : List Nat) (V : Nat → Ent) : Prop where
  own : w.ownsRow 0 205 1 v row.length (row.map ptr)
  ent : ∀ k, k < row.length → Blk w (nth row k) (EntCells (V (nth row k)) k) 213
  nodup : row.Nodup

/-- A row that is not empty lies in a block. -/
theorem AgRow.at {w : World} {v : Value} {row : List Nat} {V : Nat → Ent} (h : AgRow w v row V) (h0 : 0 < row.length) :
    ∃ g cap cur, v = .slice (some ⟨g, 0, none⟩) row.length cap ∧ Blk w g cur 205 ∧ row.length ≤ cap ∧ cap ≤ maxLen ∧ cur.size = cap ∧
      ∀ k, k < row.length → w.cell? ⟨g, k, none⟩ = some (ptr (nth row k)) := by
  obtain ⟨hl, hn | ⟨g, cap, cur, hv, _, hg, hc, hm, hs, ht⟩⟩ := h.own
  · omega
  · refine ⟨g, cap, cur, hv, hg, hc, hm, by simpa using hs, fun k hk => ?_⟩
    rw [Blk.cell hg]
    have : (cur.toList.take (row.length * 1))[k]? = (row.map ptr)[k]? := by rw [ht]
    rw [List.getElem?_take, if_pos (by omega)] at this
    simp only [Array.getElem?_toList] at this
    rw [this]
    rw [List.getElem?_map, nth_eq row k hk]
    rfl

set_option maxHeartbeats 1000000 in
theorem less_any (v : Value) (row : List Nat) (V : Nat → Ent) (i j : Nat) (w : World) (h : AgRow w v row V) (hi : i < row.length) (hj : j < row.length) :
    Calls Tryz.prog 326 #[v, .int .i64 i, .int .i64 j] w fun r w' => r = .returned (.bool (decide ((at' V row i).lt (at' V row j)))) ∧ Ext w w' := by
  obtain ⟨g, cap, cur, rfl, hg, hc, hm, hs, hcell⟩ := h.at (by omega)
  have ci := hcell i hi
  have cj := hcell j hj
  have ei := h.ent i hi
  have ej := h.ent j hj
  have hi' : (0 : Int) ≤ i ∧ (i : Int) < row.length := by omega
  have hj' : (0 : Int) ≤ j ∧ (j : Int) < row.length := by omega
  have hm' : row.length ≤ maxLen := by omega
  unfold maxLen at hm'
  have hgl := hg.lt
  have hgi := ei.lt
  have hgj := ej.lt
  have HI := hid ei
  have HJ := hid ej
  clear hg hs hc hm hcell ei ej h
  go_enter Tryz.func326, Tryz.ntmps326
  go_wp2_with fail
  go_region_held3 (fun w' => w'.cell? ⟨g, i, none⟩ = some (ptr (nth row i)) ∧ w'.cell? ⟨g, j, none⟩ = some (ptr (nth row j))) (first | go_keep | exact ⟨((Ext.cells hE).1 _ _ hgl).trans ci, ((Ext.cells hE).1 _ _ hgl).trans cj⟩)
    (first | (go_at_call 165; refine (order_any _ _ (at' V row i) (at' V row j) i j _ ?_ ?_).mono ?_; (exact HI.out); (exact HJ.out); rintro e w' ⟨rfl, hE⟩))
  go_wp2
  go_ret
  exact ⟨ret_bool (by rw [Bool.eq_iff_iff]; simp [ordI_neg]), hE.of_drew⟩
end Go.Proofs.YtnippamifihdpaaGreatDoor
namespace Go.Proofs.YtnippamifihdpaaGreatDoor
open Go Go.RowKit

/-- The blocks of a row: its own one, and its entries'. -/
def RowFp (v : Value) (row : List Nat) (b : Nat) : Prop := some b = v.ownBlock ∨ b ∈ row

set_option maxHeartbeats 2000000 in
theorem swap_raw (g cap n i j x y : Nat) (px py : Value) (w : World) (hi : i < n) (hj : j < n) (hij : i ≠ j) (_hn : n ≤ 9223372036854775807)
    (ci : w.cell? ⟨g, i, none⟩ = some (ptr x)) (cj : w.cell? ⟨g, j, none⟩ = some (ptr y)) (fi : w.frozen? ⟨g, i, none⟩ = false) (fj : w.frozen? ⟨g, j, none⟩ = false)
    (cx : w.cell? ⟨x, 3, none⟩ = some px) (cy : w.cell? ⟨y, 3, none⟩ = some py) (fx : w.frozen? ⟨x, 3, none⟩ = false) (fy : w.frozen? ⟨y, 3, none⟩ = false)
    (hgx : g ≠ x) (hgy : g ≠ y) (hxy : x ≠ y) :
    Calls Tryz.prog 327 #[.slice (some ⟨g, 0, none⟩) n cap, .int .i64 i, .int .i64 j] w fun r w' => r = .returned (.tuple #[]) ∧
      ∃ m, w' = ((((w.setCell ⟨g, i, none⟩ (ptr y)).setCell ⟨g, j, none⟩ (ptr x)).setCell ⟨y, 3, none⟩ (.int .i64 i)).setCell ⟨x, 3, none⟩ (.int .i64 j)).drewN m := by
  have hi' : (0 : Int) ≤ i ∧ (i : Int) < n := by omega
  have hj' : (0 : Int) ≤ j ∧ (j : Int) < n := by omega
  go_enter Tryz.func327, Tryz.ntmps327
  go_wp2_with fail
  go_region
  all_goals go_wp2_with fail
  all_goals go_region
  go_end0
  exact ⟨rfl, 2, rfl⟩

/-- An entry's block and a row's own one are two. -/
theorem AgRow.ne {w : World} {g n cap : Nat} {row : List Nat} {V : Nat → Ent} (h : AgRow w (.slice (some ⟨g, 0, none⟩) n cap) row V) {k : Nat} (hk : k < row.length) : g ≠ nth row k := by
  obtain ⟨g', cap', cur, hv, hg, _⟩ := h.at (by omega)
  injection hv with h1
  injection h1 with h1
  injection h1 with h1
  subst h1
  intro e
  have := h.ent k hk
  rw [← e] at this
  exact absurd (hg.uniq this).2 (by decide)

theorem map_swap (f : Nat → Value) (row : List Nat) (i j : Nat) : (swap row i j).map f = ((row.map f).set i (f (nth row j))).set j (f (nth row i)) := by
  unfold swap
  rw [List.map_set, List.map_set]

theorem swap_any (v : Value) (row : List Nat) (V : Nat → Ent) (i j : Nat) (w : World) (h : AgRow w v row V) (hi : i < row.length) (hj : j < row.length) (hij : i ≠ j) :
    Calls Tryz.prog 327 #[v, .int .i64 i, .int .i64 j] w fun r w' => r = .returned (.tuple #[]) ∧ AgRow w' v (swap row i j) V ∧ Fr (RowFp v row) w w' := by
  obtain ⟨g, cap, cur, rfl, hg, hc, hm, hs, hcell⟩ := h.at (by omega)
  have hxy : nth row i ≠ nth row j := fun e => hij (nth_inj h.nodup hi hj e)
  have ei := h.ent i hi
  have ej := h.ent j hj
  refine (swap_raw g cap row.length i j (nth row i) (nth row j) (.int .i64 i) (.int .i64 j) w hi hj hij (by unfold maxLen at hm; omega) (hcell i hi) (hcell j hj)
    (hg.frozen i) (hg.frozen j) ((ei.cell 3).trans rfl) ((ej.cell 3).trans rfl) (ei.frozen 3) (ej.frozen 3) (h.ne hi) (h.ne hj) hxy).mono ?_
  rintro r w' ⟨rfl, m, rfl⟩
  refine ⟨rfl, ⟨?_, ?_, (swap_perm row i j hi hj).nodup_iff.2 h.nodup⟩, ?_⟩
  · have h1 := ownsRow_set (ownsRow_set h.own i (ptr (nth row j))) j (ptr (nth row i))
    rw [← map_swap] at h1
    have hl : (swap row i j).length = row.length := length_swap _ _ _
    rw [hl]
    refine ownsRow_fr (S := fun b => b = nth row j ∨ b = nth row i) h1 ?_ ?_
    · exact (((Fr.refl _ _).setCell (.inl (.inl rfl)) _).setCell (.inl (.inr rfl)) _).drewN m
    · rintro b hb (rfl | rfl)
      · injection hb with hb; exact h.ne hj hb.symm
      · injection hb with hb; exact h.ne hi hb.symm
  · intro k hk
    rw [length_swap] at hk
    have ek := h.ent k hk
    rw [getD_swap row i j k hi hj]
    have hgk := h.ne hk
    by_cases e1 : k = j
    · subst e1
      rw [if_pos rfl]
      have h1 := (((ei.setCell_other (p := ⟨g, i, none⟩) (Ne.symm (h.ne hi)) (ptr (nth row k))).setCell_other (p := ⟨g, k, none⟩) (Ne.symm (h.ne hi)) (ptr (nth row i))).setCell_other (p := ⟨nth row k, 3, none⟩) hxy (.int .i64 i)).setCell 3 (.int .i64 k)
      exact h1.drewN m
    · rw [if_neg e1]
      by_cases e2 : k = i
      · subst e2
        rw [if_pos rfl]
        have h1 := (((ej.setCell_other (p := ⟨g, k, none⟩) (Ne.symm (h.ne hj)) (ptr (nth row j))).setCell_other (p := ⟨g, j, none⟩) (Ne.symm (h.ne hj)) (ptr (nth row k))).setCell 3 (.int .i64 k)).setCell_other (p := ⟨nth row k, 3, none⟩) (Ne.symm hxy) (.int .i64 j)
        exact h1.drewN m
      · rw [if_neg e2]
        have n1 : nth row k ≠ nth row j := fun e => e1 (nth_inj h.nodup hk hj e)
        have n2 : nth row k ≠ nth row i := fun e => e2 (nth_inj h.nodup hk hi e)
        have h1 := (((ek.setCell_other (p := ⟨g, i, none⟩) (Ne.symm hgk) (ptr (nth row j))).setCell_other (p := ⟨g, j, none⟩) (Ne.symm hgk) (ptr (nth row i))).setCell_other (p := ⟨nth row j, 3, none⟩) n1 (.int .i64 i)).setCell_other (p := ⟨nth row i, 3, none⟩) n2 (.int .i64 j)
        exact h1.drewN m
  · exact (((((Fr.refl _ w).setCell (.inl (.inl rfl)) _).setCell (.inl (.inl rfl)) _).setCell (.inl (.inr (nth_mem _ _ hj))) _).setCell (.inl (.inr (nth_mem _ _ hi))) _).drewN m
/-- What a heap's interface value answers, method by method. -/
theorem m_push (pa : Nat) (w : World) : (method 457 215 (ptr pa) "Push").run Tryz.prog w = .ok (329, ptr pa) w := by kernel_rfl
theorem m_pop (pa : Nat) (w : World) : (method 457 215 (ptr pa) "Pop").run Tryz.prog w = .ok (328, ptr pa) w := by kernel_rfl
theorem m_less_load (pa : Nat) (w : World) : (method 457 215 (ptr pa) "Less").run Tryz.prog w = (Sem.load .plain ⟨pa, 0, none⟩ fun v => Sem.pure ((326 : FuncId), v)).run Tryz.prog w := by kernel_rfl
theorem m_swap_load (pa : Nat) (w : World) : (method 457 215 (ptr pa) "Swap").run Tryz.prog w = (Sem.load .plain ⟨pa, 0, none⟩ fun v => Sem.pure ((327 : FuncId), v)).run Tryz.prog w := by kernel_rfl
theorem m_len_load (pa : Nat) (w : World) : (method 457 215 (ptr pa) "Len").run Tryz.prog w = (Sem.load .plain ⟨pa, 0, none⟩ fun v => Sem.pure ((325 : FuncId), v)).run Tryz.prog w := by kernel_rfl
theorem m_less (pa : Nat) (v : Value) (w : World) (h : w.cell? ⟨pa, 0, none⟩ = some v) : (method 457 215 (ptr pa) "Less").run Tryz.prog w = .ok (326, v) w := by
  rw [m_less_load]; simp [Sem.run, h]
theorem m_swap (pa : Nat) (v : Value) (w : World) (h : w.cell? ⟨pa, 0, none⟩ = some v) : (method 457 215 (ptr pa) "Swap").run Tryz.prog w = .ok (327, v) w := by
  rw [m_swap_load]; simp [Sem.run, h]
theorem m_len (pa : Nat) (v : Value) (w : World) (h : w.cell? ⟨pa, 0, none⟩ = some v) : (method 457 215 (ptr pa) "Len").run Tryz.prog w = .ok (325, v) w := by
  rw [m_len_load]; simp [Sem.run, h]
end Go.Proofs.YtnippamifihdpaaGreatDoor
namespace Go.Proofs.YtnippamifihdpaaGreatDoor
open Go Go.RowKit

/-- What holds of a row while a heap's function goes through it: it is another order of the row, of which the places from n on are as they were. -/
structure RowStep (w wr : World) (pa : Nat) (v : Value) (V : Nat → Ent) (row row' : List Nat) (n : Nat) : Prop where
  at_ : AgRow wr v row' V
  perm : row'.Perm row
  tail : ∀ k, n ≤ k → nth row' k = nth row k
  fr : Fr (RowFp v row) w wr
  cell : wr.cell? ⟨pa, 0, none⟩ = some v

theorem RowFp.perm {v : Value} {row row' : List Nat} (h : row'.Perm row) {b : Nat} (k : RowFp v row' b) : RowFp v row b := by
  rcases k with k | k
  · exact .inl k
  · exact .inr (h.mem_iff.1 k)

/-- The heap's interface value lies in a block of its own. -/
structure AgCell (w : World) (pa : Nat) (v : Value) (row : List Nat) : Prop where
  cell : w.cell? ⟨pa, 0, none⟩ = some v
  lt : pa < w.heap.size
  out : ¬ RowFp v row pa

theorem RowStep.start {w : World} {pa : Nat} {v : Value} {V : Nat → Ent} {row : List Nat} {n : Nat} (h : AgRow w v row V) (c : AgCell w pa v row) : RowStep w w pa v V row row n :=
  ⟨h, .refl _, fun _ _ => rfl, Fr.refl _ _, c.cell⟩

theorem RowStep.ext {w wr w1 : World} {pa : Nat} {v : Value} {V : Nat → Ent} {row row' : List Nat} {n : Nat} (h : RowStep w wr pa v V row row' n) (k : Ext wr w1) : RowStep w w1 pa v V row row' n :=
  ⟨⟨ownsRow_ext h.at_.own k, fun i hi => (h.at_.ent i hi).ext k, h.at_.nodup⟩, h.perm, h.tail, h.fr.ext k, (Fr.cell k (World.block_lt_of_cell? _ _ h.cell) id).trans h.cell⟩

theorem RowStep.swap {w wr w1 : World} {pa : Nat} {v : Value} {V : Nat → Ent} {row row' : List Nat} {n i j : Nat} (h : RowStep w wr pa v V row row' n) (c : AgCell w pa v row)
    (hi : i < n) (hj : j < n) (hn : n ≤ row.length) (k : AgRow w1 v (Go.Proofs.YtnippamifihdpaaGreatDoor.swap row' i j) V) (f : Fr (RowFp v row') wr w1) : RowStep w w1 pa v V row (Go.Proofs.YtnippamifihdpaaGreatDoor.swap row' i j) n := by
  have hl := h.perm.length_eq
  refine ⟨k, (swap_perm row' i j (by omega) (by omega)).trans h.perm, fun q hq => ?_, h.fr.trans' f fun b _ e => e.perm h.perm, ?_⟩
  · rw [getD_swap row' i j q (by omega) (by omega), if_neg (by omega), if_neg (by omega)]
    exact h.tail q hq
  · exact (Fr.cell f (World.block_lt_of_cell? _ _ h.cell) fun e => c.out (e.perm h.perm)).trans h.cell

def UpRel (w : World) (pa : Nat) (v : Value) (V : Nat → Ent) (row : List Nat) (n : Nat) (j : Value) (wr : World) : Prop :=
  ∃ (k : Nat) (row' : List Nat), j = .int .i64 k ∧ k < n ∧ HeapUp V row' n k ∧ RowStep w wr pa v V row row' n

set_option maxRecDepth 100000 in
set_option maxHeartbeats 4000000 in
theorem up_any (pa : Nat) (v : Value) (row : List Nat) (V : Nat → Ent) (n j : Nat) (w : World) (h : AgRow w v row V) (hc : AgCell w pa v row) (hj : j < n) (hn : n ≤ row.length)
    (hup : HeapUp V row n j) (hmax : row.length ≤ maxLen) :
    Calls Tryz.prog 224 #[.iface 215 (ptr pa), .int .i64 j] w fun r w' => r = .returned (.tuple #[]) ∧
      ∃ row', RowStep w w' pa v V row row' n ∧ IsHeapN V row' n := by
  have H0 := hid (show UpRel w pa v V row n (.int .i64 j) w from ⟨j, row, rfl, hj, hup, RowStep.start h hc⟩)
  have HC := hid hc
  unfold maxLen at hmax
  clear hup h hc
  go_enter Tryz.func224, Tryz.ntmps224
  go_wp2_with fail
  go_loopw [1] (fun j wr => UpRel w pa v V row n j wr) (fun j _ => (intOf j).toNat)
  case atStart => exact H0.out
  case round =>
    obtain ⟨k, row', rfl, hk, hup, hs⟩ := hrel
    clear H0
    have hl := hs.perm.length_eq
    by_cases h0 : k = 0
    · subst h0
      have HS := hid hs
      have HU := hid hup
      clear hs hup hl
      go_wp2
      go_end0
      exact ⟨rfl, row', HS.out, HU.out.done (.inl rfl)⟩
    · obtain ⟨i, hi⟩ : ∃ i, (k - 1) / 2 = i := ⟨_, rfl⟩
      have ep' : ((k : Int) - 1).tdiv 2 = (i : Int) := by rw [Int.tdiv_eq_ediv_of_nonneg (by omega)]; omega
      have ep : ((k : Int) - 1) / 2 = (i : Int) := by omega
      have ne : ((i : Int) == (k : Int)) = false := by simp; omega
      have hm := m_less pa v wr hs.cell
      have hpk : i < row'.length := by omega
      have hkk : k < row'.length := by omega
      have hik : i ≠ k := by omega
      have hin : i < n := by omega
      have hnl : n ≤ row'.length := by omega
      have HI := hid hi
      have HS := hid hs
      have HU := hid hup
      clear hs hup hl hi
      by_cases hlt : (at' V row' k).lt (at' V row' i)
      · have HT := hid hlt
        go_wp2_with (first
          | (go_at_call 326; refine (less_any v row' V k i _ HS.out.at_ hkk hpk).mono ?_; rintro r w1 ⟨rfl, hE⟩; have hs1 := HS.out.ext hE; have hm2 := m_swap pa v w1 hs1.cell; have HS1 := hid hs1; clear hs1)
          | (go_at_call 327; refine (swap_any v row' V i k _ HS1.out.at_ hpk hkk hik).mono ?_; rintro r w2 ⟨rfl, hA, hF⟩))
        go_roundw
        case rel => exact ⟨i, Go.Proofs.YtnippamifihdpaaGreatDoor.swap row' i k, rfl, hin, HI.out ▸ HU.out.step (by omega) hk (by omega) (HI.out.symm ▸ HT.out), HS1.out.swap HC.out hin hk hn hA hF⟩
        case measure => simp [intOf]; omega
      · have HT := hid hlt
        go_wp2_with (first
          | (go_at_call 326; refine (less_any v row' V k i _ HS.out.at_ hkk hpk).mono ?_; rintro r w1 ⟨rfl, hE⟩))
        go_end0
        exact ⟨rfl, row', HS.out.ext hE, HU.out.done (.inr (HI.out.symm ▸ HT.out))⟩
end Go.Proofs.YtnippamifihdpaaGreatDoor
