/- container/heap's down over the agenda's row: its loop, one case for each way through a round (printed by gen_down.py). agenda: the row's Push and Pop, its Len. container/heap's Push and Remove over the agenda's row. -/
import Derived.Test.YtnippamifihdpaaGreatDoorKAg1
import Derived.Deep.AppendLies
namespace Go.Proofs.YtnippamifihdpaaGreatDoor
open Go Go.RowKit

def DownRel (w : World) (pa : Nat) (v : Value) (V : Nat → Ent) (row : List Nat) (n i0 : Nat) (i : Value) (wr : World) : Prop :=
  ∃ (k : Nat) (row' : List Nat), i = .int .i64 k ∧ k < n ∧ RowStep w wr pa v V row row' n ∧ (HeapDown V row n i0 → HeapDown V row' n k) ∧ i0 ≤ k ∧ (k = i0 → row' = row) ∧
    ((∀ c, 0 < c → c < n → (c - 1) / 2 = i0 → ¬ (at' V row c).lt (at' V row i0)) → k = i0)

/-- What down answers: the row in a new order. -/
def DownPost (w : World) (pa : Nat) (v : Value) (V : Nat → Ent) (row : List Nat) (n i0 : Nat) (r : Ending) (w' : World) : Prop :=
  ∃ (b : Bool) (row' : List Nat), r = .returned (.bool b) ∧ RowStep w w' pa v V row row' n ∧ (HeapDown V row n i0 → IsHeapN V row' n) ∧ (b = false → row' = row) ∧
    ((∀ c, 0 < c → c < n → (c - 1) / 2 = i0 → ¬ (at' V row c).lt (at' V row i0)) → b = false)

theorem down_end {w wr : World} {pa : Nat} {v : Value} {V : Nat → Ent} {row row' : List Nat} {n i0 k : Nat} (hs : RowStep w wr pa v V row row' n) (hd : HeapDown V row n i0 → HeapDown V row' n k)
    (hik : i0 ≤ k) (he : k = i0 → row' = row) (hn : (∀ c, 0 < c → c < n → (c - 1) / 2 = i0 → ¬ (at' V row c).lt (at' V row i0)) → k = i0)
    (hc : ∀ c, 0 < c → c < n → (c - 1) / 2 = k → ¬ (at' V row' c).lt (at' V row' k)) : DownPost w pa v V row n i0 (.returned (.bool (decide (i0 < k)))) wr :=
  ⟨_, row', rfl, hs, fun h => (hd h).done hc, fun h => he (by simp at h; omega), fun h => by have := hn h; simp; omega⟩

theorem down_go {w wr w1 : World} {pa : Nat} {v : Value} {V : Nat → Ent} {row row' : List Nat} {n i0 k j : Nat} (c : AgCell w pa v row) (hnr : n ≤ row.length) (hs : RowStep w wr pa v V row row' n) (hd : HeapDown V row n i0 → HeapDown V row' n k)
    (hik : i0 ≤ k) (he : k = i0 → row' = row) (hn : (∀ c, 0 < c → c < n → (c - 1) / 2 = i0 → ¬ (at' V row c).lt (at' V row i0)) → k = i0) (hkn : k < n)
    (hj : j < n) (h0 : 0 < j) (hp : (j - 1) / 2 = k) (hlt : (at' V row' j).lt (at' V row' k)) (hmin : ∀ q, 0 < q → q < n → (q - 1) / 2 = k → ¬ (at' V row' q).lt (at' V row' j))
    (hA : AgRow w1 v (Go.Proofs.YtnippamifihdpaaGreatDoor.swap row' k j) V) (hF : Fr (RowFp v row') wr w1) : DownRel w pa v V row n i0 (.int .i64 j) w1 := by
  have hl := hs.perm.length_eq
  refine ⟨j, Go.Proofs.YtnippamifihdpaaGreatDoor.swap row' k j, rfl, hj, hs.swap c hkn hj hnr hA hF, fun h => (hd h).step (by omega) hj hp h0 hlt hmin, by omega, fun e => by omega, fun h => ?_⟩
  have e := hn h
  subst e
  rw [he rfl] at hlt
  exact (h j h0 hj hp hlt).elim

set_option maxRecDepth 100000 in
set_option maxHeartbeats 8000000 in
theorem down_any (pa : Nat) (v : Value) (row : List Nat) (V : Nat → Ent) (n i0 : Nat) (w : World) (h : AgRow w v row V) (hc : AgCell w pa v row) (hi : i0 < n) (hn : n ≤ row.length)
    (hmax : row.length ≤ 65536) :
    Calls Tryz.prog 223 #[.iface 215 (ptr pa), .int .i64 i0, .int .i64 n] w (DownPost w pa v V row n i0) := by
  have H0 := hid (show DownRel w pa v V row n i0 (.int .i64 i0) w from ⟨i0, row, rfl, hi, RowStep.start h hc, id, Nat.le_refl _, fun _ => rfl, fun _ => rfl⟩)
  have HC := hid hc
  clear h hc
  go_enter Tryz.func223, Tryz.ntmps223
  go_wp2_with fail
  go_loopw [7] (fun i wr => DownRel w pa v V row n i0 i wr) (fun i _ => n - (intOf i).toNat)
  case atStart => exact H0.out
  case round =>
    obtain ⟨k, row', rfl, hk, hs, hd, hik, he, hnn⟩ := hrel
    clear H0
    have hl := hs.perm.length_eq
    have hm := m_less pa v wr hs.cell
    have hkl : k < row'.length := by omega
    have hnl : n ≤ row'.length := by omega
    have hk16 : k < 65536 := by omega
    have hn16 : n ≤ 65536 := by omega
    have HS := hid hs
    have HD := hid hd
    have HE := hid he
    have HN := hid hnn
    clear hs hd he hnn hl hmax
    by_cases h1 : 2 * k + 1 < n
    · obtain ⟨j1, hj1⟩ : ∃ j, 2 * k + 1 = j := ⟨_, rfl⟩
      have e1 : 2 * (k : Int) + 1 = (j1 : Int) := by omega
      have hj1n : j1 < n := by omega
      have hj1l : j1 < row'.length := by omega
      have H1 := hid hj1
      have hb1 : j1 ≤ 2 * k + 1 ∧ 2 * k + 1 ≤ j1 := by omega
      clear hj1 h1
      by_cases h2 : j1 + 1 < n
      · obtain ⟨j2, hj2⟩ : ∃ j, j1 + 1 = j := ⟨_, rfl⟩
        have e2 : (j1 : Int) + 1 = (j2 : Int) := by omega
        have hj2n : j2 < n := by omega
        have hj2l : j2 < row'.length := by omega
        have hb2 : j2 ≤ 2 * k + 2 ∧ 2 * k + 2 ≤ j2 := by omega
        clear hj2 h2
        by_cases hl2 : (at' V row' j2).lt (at' V row' j1)
        · have H2 := hid hl2
          by_cases hlt : (at' V row' j2).lt (at' V row' k)
          · have HT := hid hlt
            have tok : True := trivial
            go_wp2_with (first | (go_at_call 326; have _t := tok; refine (less_any v row' V j2 j1 _ HS.out.at_ hj2l hj1l).mono ?_; rintro r w1 ⟨rfl, hEw1⟩; have hsw1 := HS.out.ext hEw1; have hmw1 := m_less pa v w1 hsw1.cell; have hww1 := m_swap pa v w1 hsw1.cell; have HSw1 := hid hsw1; clear hsw1 tok) | (go_at_call 326; refine (less_any v row' V j2 k _ HSw1.out.at_ hj2l hkl).mono ?_; rintro r w2 ⟨rfl, hEw2⟩; have hsw2 := HSw1.out.ext hEw2; have hmw2 := m_less pa v w2 hsw2.cell; have hww2 := m_swap pa v w2 hsw2.cell; have HSw2 := hid hsw2; clear hsw2) | (go_at_call 327; refine (swap_any v row' V k j2 _ HSw2.out.at_ hkl hj2l (by omega)).mono ?_; rintro r w3 ⟨rfl, hA, hF⟩))
            go_roundw
            case rel => exact down_go HC.out hn HSw2.out HD.out hik HE.out HN.out hk hj2n (by omega) (by omega) HT.out (fun q q0 qn qp => by rcases (show q = j1 ∨ q = j2 from by omega) with e | e <;> rw [e]; exact Ent.lt_asymm H2.out; exact Ent.lt_irrefl _) hA hF
            case measure => simp [intOf]; omega
          · have HT := hid hlt
            have tok : True := trivial
            go_wp2_with (first | (go_at_call 326; have _t := tok; refine (less_any v row' V j2 j1 _ HS.out.at_ hj2l hj1l).mono ?_; rintro r w1 ⟨rfl, hEw1⟩; have hsw1 := HS.out.ext hEw1; have hmw1 := m_less pa v w1 hsw1.cell; have hww1 := m_swap pa v w1 hsw1.cell; have HSw1 := hid hsw1; clear hsw1 tok) | (go_at_call 326; refine (less_any v row' V j2 k _ HSw1.out.at_ hj2l hkl).mono ?_; rintro r w2 ⟨rfl, hEw2⟩; have hsw2 := HSw1.out.ext hEw2; have hmw2 := m_less pa v w2 hsw2.cell; have hww2 := m_swap pa v w2 hsw2.cell; have HSw2 := hid hsw2; clear hsw2))
            go_ret
            exact down_end HSw2.out HD.out hik HE.out HN.out (fun q q0 qn qp => by rcases (show q = j1 ∨ q = j2 from by omega) with e | e <;> rw [e]; exact (fun hc => HT.out (Ent.lt_trans H2.out hc)); exact HT.out)
        · have H2 := hid hl2
          by_cases hlt : (at' V row' j1).lt (at' V row' k)
          · have HT := hid hlt
            have tok : True := trivial
            go_wp2_with (first | (go_at_call 326; have _t := tok; refine (less_any v row' V j2 j1 _ HS.out.at_ hj2l hj1l).mono ?_; rintro r w1 ⟨rfl, hEw1⟩; have hsw1 := HS.out.ext hEw1; have hmw1 := m_less pa v w1 hsw1.cell; have hww1 := m_swap pa v w1 hsw1.cell; have HSw1 := hid hsw1; clear hsw1 tok) | (go_at_call 326; refine (less_any v row' V j1 k _ HSw1.out.at_ hj1l hkl).mono ?_; rintro r w2 ⟨rfl, hEw2⟩; have hsw2 := HSw1.out.ext hEw2; have hmw2 := m_less pa v w2 hsw2.cell; have hww2 := m_swap pa v w2 hsw2.cell; have HSw2 := hid hsw2; clear hsw2) | (go_at_call 327; refine (swap_any v row' V k j1 _ HSw2.out.at_ hkl hj1l (by omega)).mono ?_; rintro r w3 ⟨rfl, hA, hF⟩))
            go_roundw
            case rel => exact down_go HC.out hn HSw2.out HD.out hik HE.out HN.out hk hj1n (by omega) (by omega) HT.out (fun q q0 qn qp => by rcases (show q = j1 ∨ q = j2 from by omega) with e | e <;> rw [e]; exact Ent.lt_irrefl _; exact H2.out) hA hF
            case measure => simp [intOf]; omega
          · have HT := hid hlt
            have tok : True := trivial
            go_wp2_with (first | (go_at_call 326; have _t := tok; refine (less_any v row' V j2 j1 _ HS.out.at_ hj2l hj1l).mono ?_; rintro r w1 ⟨rfl, hEw1⟩; have hsw1 := HS.out.ext hEw1; have hmw1 := m_less pa v w1 hsw1.cell; have hww1 := m_swap pa v w1 hsw1.cell; have HSw1 := hid hsw1; clear hsw1 tok) | (go_at_call 326; refine (less_any v row' V j1 k _ HSw1.out.at_ hj1l hkl).mono ?_; rintro r w2 ⟨rfl, hEw2⟩; have hsw2 := HSw1.out.ext hEw2; have hmw2 := m_less pa v w2 hsw2.cell; have hww2 := m_swap pa v w2 hsw2.cell; have HSw2 := hid hsw2; clear hsw2))
            go_ret
            exact down_end HSw2.out HD.out hik HE.out HN.out (fun q q0 qn qp => by rcases (show q = j1 ∨ q = j2 from by omega) with e | e <;> rw [e]; exact HT.out; exact Ent.not_lt_trans H2.out HT.out)
      · have hlast : n ≤ j1 + 1 := by omega
        clear h2
        by_cases hlt : (at' V row' j1).lt (at' V row' k)
        · have HT := hid hlt
          go_wp2_with (first | (go_at_call 326; refine (less_any v row' V j1 k _ HS.out.at_ hj1l hkl).mono ?_; rintro r w1 ⟨rfl, hEw1⟩; have hsw1 := HS.out.ext hEw1; have hmw1 := m_less pa v w1 hsw1.cell; have hww1 := m_swap pa v w1 hsw1.cell; have HSw1 := hid hsw1; clear hsw1) | (go_at_call 327; refine (swap_any v row' V k j1 _ HSw1.out.at_ hkl hj1l (by omega)).mono ?_; rintro r w3 ⟨rfl, hA, hF⟩))
          go_roundw
          case rel => exact down_go HC.out hn HSw1.out HD.out hik HE.out HN.out hk hj1n (by omega) (by omega) HT.out (fun q q0 qn qp => by rw [show q = j1 from by omega]; exact Ent.lt_irrefl _) hA hF
          case measure => simp [intOf]; omega
        · have HT := hid hlt
          go_wp2_with (first | (go_at_call 326; refine (less_any v row' V j1 k _ HS.out.at_ hj1l hkl).mono ?_; rintro r w1 ⟨rfl, hEw1⟩; have hsw1 := HS.out.ext hEw1; have hmw1 := m_less pa v w1 hsw1.cell; have hww1 := m_swap pa v w1 hsw1.cell; have HSw1 := hid hsw1; clear hsw1))
          go_ret
          exact down_end HSw1.out HD.out hik HE.out HN.out (fun q q0 qn qp => by rw [show q = j1 from by omega]; exact HT.out)
    · have hlast : n ≤ 2 * k + 1 := by omega
      clear h1
      go_wp2_with fail
      go_ret
      exact down_end HS.out HD.out hik HE.out HN.out (fun q q0 qn qp => by omega)
end Go.Proofs.YtnippamifihdpaaGreatDoor
namespace Go.Proofs.YtnippamifihdpaaGreatDoor
open Go Go.RowKit

theorem infoPE : (Tryz.prog.info? 205).map (fun i => (i.zero, i.size, i.bytes)) = some (some (.pointer none), 1, 8) := by kernel_rfl

theorem ta_entry (x : Value) (w : World) : (Instr.typeAssert (.iface 205 x) 20 205 true).run Tryz.prog w = .ok (.tuple #[x, .bool true]) w := by kernel_rfl

/-- A new block of one cell, as append reads it. -/
theorem one_new (w : World) (x : Value) (t : TypeId) (b : Nat) (hb : w.heap.size = b) : ∀ (j : Nat) (u : Value), ([x] : List Value)[j]? = some u → (w.alloc (.cells #[x] t)).cell? ((⟨b, 0, none⟩ : Addr).add j) = some u := by
  subst hb
  exact World.news_of_block (cs := #[x]) (t := t) (fr := (0, 0)) (heap_alloc_new w _)
theorem one_ptr (e : Nat) : ∀ u ∈ [ptr e], u.oneCell' = true := by simp [Value.oneCell', ptr]

set_option maxRecDepth 100000 in
set_option maxHeartbeats 4000000 in
theorem push_raw (pa e : Nat) (ad : Option Addr) (n c : Nat) (p0 : Value) (xs : List Value) (w : World) (hown : w.ownsRow 0 205 1 (.slice ad n c) n xs) (hn : n ≤ 65536)
    (c0 : w.cell? ⟨pa, 0, none⟩ = some (.slice ad n c)) (f0 : w.frozen? ⟨pa, 0, none⟩ = false) (c3 : w.cell? ⟨e, 3, none⟩ = some p0) (f3 : w.frozen? ⟨e, 3, none⟩ = false)
    (hpe : pa ≠ e) (hpv : some pa ≠ (Value.slice ad n c).ownBlock) (hev : some e ≠ (Value.slice ad n c).ownBlock) :
    Calls Tryz.prog 329 #[ptr pa, .iface 205 (ptr e)] w fun r w' => r = .returned (.tuple #[]) ∧
      ∃ g cap w2, w2.ownsRow 0 205 1 (.slice (some ⟨g, 0, none⟩) (n + 1) cap) (n + 1) (xs ++ [ptr e]) ∧ ((Value.slice ad n c).ownBlock = some g ∨ w.heap.size < g) ∧
        Fr (fun b => some b = (Value.slice ad n c).ownBlock) (w.setCell ⟨e, 3, none⟩ (.int .i64 n)) w2 ∧ w' = w2.setCell ⟨pa, 0, none⟩ (.slice (some ⟨g, 0, none⟩) (n + 1) cap) := by
  obtain ⟨i0, hi, hz0, hz1, hz2⟩ := info_parts infoPE
  have hta := ta_entry (ptr e)
  have lpa : pa < w.heap.size := World.block_lt_of_cell? w _ c0
  have _le : e < w.heap.size := World.block_lt_of_cell? w _ c3
  have hown2 : (w.setCell ⟨e, 3, none⟩ (.int .i64 n)).ownsRow 0 205 1 (.slice ad n c) n xs :=
    ownsRow_fr (S := fun b => b = e) hown ((Fr.refl (fun b => b = e) w).setCell (p := ⟨e, 3, none⟩) (.inl rfl) _) (fun b hb he => hev (he ▸ hb))
  have hfr := ((Fr.refl (fun b => b = e) w).setCell (p := ⟨e, 3, none⟩) (.inl rfl) (.int .i64 n)).alloc (.cells #[ptr e] 205)
  have C0 := hid ((hfr.cell (a := ⟨pa, 0, none⟩) lpa hpe).trans c0)
  have F0 := hid ((hfr.frozen (a := ⟨pa, 0, none⟩) lpa hpe).trans f0)
  clear hfr
  have HO := hid hown2
  have hmax : n + 1 ≤ maxLen := by unfold maxLen; omega
  have HM := hid hmax
  have H47 : Hid ((n + 1) * 8 ≤ 140737488355328) := hid (by omega)
  clear hown hown2 hmax
  go_enter Tryz.func329, Tryz.ntmps329
  go_wp2_with ((at_builtin; refine wpList_append_lies _ rfl _ _ 208 rfl 0 205 i0 (.pointer none) 1 8 Tryz.underlying208 hi hz0 hz1 hz2 rfl (by decide) _ n xs rfl (ownsRow_ext HO.out ((Ext.refl _).alloc _)) ⟨w.heap.size, 0, none⟩ 1 1 [ptr e] rfl rfl (one_new _ _ _ _ (by simp)) (one_ptr e) (by decide) HM.out H47.out (Nat.zero_le _) (w.heap.size + 1) (by simp) ?_; intro g cap w2 hown3 hgrow hat hlt; have c4 : w2.cell? ⟨pa, 0, none⟩ = some (.slice ad n c) := (hgrow.cell_far ⟨pa, 0, none⟩ (by simp; omega) hpv).trans C0.out; have f4 : w2.frozen? ⟨pa, 0, none⟩ = false := (hgrow.frozen_far ⟨pa, 0, none⟩ (by simp; omega) hpv).trans F0.out; have HO3 := hid hown3; have HG := hid hgrow; have HA := hid hat; clear hown3 hgrow hat))
  go_end0
  refine ⟨rfl, g, cap, w2, HO3.out, HA.out.imp id (fun h => by omega), ?_, rfl⟩
  exact (Fr.of_grown HG.out).of_alloc
theorem AgRow.slice {w : World} {v : Value} {row : List Nat} {V : Nat → Ent} (h : AgRow w v row V) : ∃ ad c, v = .slice ad row.length c := by
  obtain ⟨_, ⟨hv, hn⟩ | ⟨g, cap, cur, hv, _⟩⟩ := h.own
  · exact ⟨none, 0, by rw [hv, hn]⟩
  · exact ⟨_, _, hv⟩
theorem AgRow.own_type {w : World} {v : Value} {row : List Nat} {V : Nat → Ent} (h : AgRow w v row V) {b : Nat} (hb : some b = v.ownBlock) : ∃ cur, Blk w b cur 205 := by
  obtain ⟨_, ⟨hv, hn⟩ | ⟨g, cap, cur, hv, _, hg, _⟩⟩ := h.own
  · subst hv; cases hb
  · subst hv; injection hb with hb; subst hb; exact ⟨cur, hg⟩
theorem AgRow.mem_type {w : World} {v : Value} {row : List Nat} {V : Nat → Ent} (h : AgRow w v row V) {b : Nat} (hb : b ∈ row) : ∃ k, k < row.length ∧ nth row k = b ∧ Blk w b (EntCells (V b) k) 213 := by
  obtain ⟨k, hk, e⟩ := mem_nth hb
  exact ⟨k, hk, e, e ▸ h.ent k hk⟩
/-- The agenda's own block is none of the row's. -/
theorem AgRow.out {w : World} {v : Value} {row : List Nat} {V : Nat → Ent} (h : AgRow w v row V) {pa : Nat} {cs : Array Value} (hp : Blk w pa cs 211) : ¬ RowFp v row pa := by
  rintro (hb | hb)
  · obtain ⟨cur, hc⟩ := h.own_type hb
    exact absurd (hp.uniq hc).2 (by decide)
  · obtain ⟨k, _, _, hc⟩ := h.mem_type hb
    exact absurd (hp.uniq hc).2 (by decide)
theorem AgRow.agCell {w : World} {v : Value} {row : List Nat} {V : Nat → Ent} (h : AgRow w v row V) {pa : Nat} {cs : Array Value} (hp : Blk w pa cs 211) (h0 : cs[0]? = some v) : AgCell w pa v row :=
  ⟨(hp.cell 0).trans h0, hp.lt, h.out hp⟩
theorem nth_append_lt (row : List Nat) (e k : Nat) (h : k < row.length) : nth (row ++ [e]) k = nth row k := by
  unfold nth; simp [List.getD_eq_getElem?_getD, List.getElem?_append_left h]
theorem nth_append_last (row : List Nat) (e : Nat) : nth (row ++ [e]) row.length = e := by
  unfold nth; simp [List.getD_eq_getElem?_getD]

theorem push_any (pa e : Nat) (v p : Value) (row : List Nat) (V : Nat → Ent) (pcs : Array Value) (w : World) (h : AgRow w v row V) (hp : Blk w pa pcs 211) (h0 : pcs[0]? = some v)
    (he : Blk w e #[.int .i64 (V e).id, .int .i64 (V e).at_, .int .i64 (V e).turn, p] 213) (hne : e ∉ row) (hn : row.length ≤ 65536) :
    Calls Tryz.prog 329 #[ptr pa, .iface 205 (ptr e)] w fun r w' => r = .returned (.tuple #[]) ∧
      ∃ v', AgRow w' v' (row ++ [e]) V ∧ Blk w' pa (pcs.setIfInBounds 0 v') 211 ∧ Fr (fun b => b = pa ∨ b = e ∨ some b = v.ownBlock) w w' ∧
        (v'.ownBlock = v.ownBlock ∨ ∃ g, v'.ownBlock = some g ∧ w.heap.size < g) := by
  obtain ⟨ad, c, rfl⟩ := h.slice
  have hpe : pa ≠ e := fun hq => absurd ((hq ▸ hp).uniq he).2 (by decide)
  have hpv : some pa ≠ (Value.slice ad row.length c).ownBlock := fun hq => h.out hp (.inl hq)
  have hev : some e ≠ (Value.slice ad row.length c).ownBlock := fun hq => by
    obtain ⟨cur, hc⟩ := h.own_type hq
    exact absurd (he.uniq hc).2 (by decide)
  refine (push_raw pa e ad row.length c p (row.map ptr) w h.own hn ((hp.cell 0).trans h0) (hp.frozen 0) ((he.cell 3).trans rfl) (he.frozen 3) hpe hpv hev).mono ?_
  rintro r w' ⟨rfl, g, cap, w2, hown, hat, hfr, rfl⟩
  have hf1 : Fr (fun b => b = e) w (w.setCell ⟨e, 3, none⟩ (.int .i64 row.length)) := (Fr.refl (fun b => b = e) w).setCell (p := ⟨e, 3, none⟩) (.inl rfl) _
  have hf2 : Fr (fun b => b = e ∨ some b = (Value.slice ad row.length c).ownBlock) w w2 := (hf1.mono fun _ _ h => .inl h).trans' hfr fun _ _ h => .inr h
  have hp2 : Blk w2 pa pcs 211 := hp.fr hf2 (by rintro (h | h); exact hpe h; exact hpv h)
  have he2 : Blk w2 e (EntCells (V e) row.length) 213 := by
    have := he.setCell 3 (.int .i64 row.length)
    exact Blk.fr this hfr hev
  have hgp : g ≠ pa := by
    rcases hat with hat | hat
    · intro hq; exact hpv (hq ▸ hat.symm)
    · have := hp.lt; omega
  refine ⟨rfl, .slice (some ⟨g, 0, none⟩) (row.length + 1) cap, ⟨?_, ?_, ?_⟩, hp2.setCell 0 _, ?_, ?_⟩
  · rw [List.map_append, List.length_append]
    exact ownsRow_fr (S := fun b => b = pa) hown ((Fr.refl (fun b => b = pa) w2).setCell (p := ⟨pa, 0, none⟩) (.inl rfl) _) (fun b hb hq => hgp ((Option.some.inj (show some b = some g from hb)).symm.trans hq))
  · intro k hk
    rw [List.length_append] at hk
    by_cases hkl : k < row.length
    · rw [nth_append_lt row e k hkl]
      have hek := h.ent k hkl
      have n1 : nth row k ≠ e := fun hq => hne (hq ▸ nth_mem row k hkl)
      have n2 : some (nth row k) ≠ (Value.slice ad row.length c).ownBlock := fun hq => by
        obtain ⟨cur, hc⟩ := h.own_type hq
        exact absurd (hek.uniq hc).2 (by decide)
      have n3 : nth row k ≠ pa := fun hq => h.out hp (.inr (hq ▸ nth_mem row k hkl))
      exact (hek.fr hf2 (by rintro (h | h); exact n1 h; exact n2 h)).setCell_other (p := ⟨pa, 0, none⟩) n3 _
    · have : k = row.length := by simp at hk; omega
      subst this
      rw [nth_append_last]
      exact he2.setCell_other (p := ⟨pa, 0, none⟩) (Ne.symm hpe) _
  · rw [List.nodup_append]
    refine ⟨h.nodup, by simp, ?_⟩
    rintro a ha b hb rfl
    simp at hb
    exact hne (hb ▸ ha)
  · exact (hf2.mono fun _ _ h => .inr h).setCell (p := ⟨pa, 0, none⟩) (.inl (.inl rfl)) _
  · rcases hat with hat | hat
    · exact .inl hat.symm
    · exact .inr ⟨g, rfl, hat⟩

set_option maxRecDepth 100000 in
set_option maxHeartbeats 4000000 in
theorem pop_raw (pa g n cap e : Nat) (w : World) (hn : n ≤ 65536) (hcap : n + 1 ≤ cap)
    (c0 : w.cell? ⟨pa, 0, none⟩ = some (.slice (some ⟨g, 0, none⟩) (n + 1 : Nat) cap)) (f0 : w.frozen? ⟨pa, 0, none⟩ = false) (cg : w.cell? ⟨g, n, none⟩ = some (ptr e)) :
    Calls Tryz.prog 328 #[ptr pa] w fun r w' => r = .returned (.iface 205 (ptr e)) ∧ w' = w.setCell ⟨pa, 0, none⟩ (.slice (some ⟨g, 0, none⟩) n cap) := by
  have hb : (0 : Int) ≤ (n : Int) ∧ (n : Int) < ((n + 1 : Nat) : Int) := by omega
  have hb2 : (0 : Int) ≤ (n : Int) ∧ (n : Int) ≤ (cap : Int) := by omega
  have hc0 : ¬ cap = 0 := by omega
  have e1 : (((n + 1 : Nat) : Int) - 1) = (n : Int) := by omega
  go_enter Tryz.func328, Tryz.ntmps328
  go_wp2_with fail
  go_ret
  exact ⟨rfl, rfl⟩
end Go.Proofs.YtnippamifihdpaaGreatDoor
namespace Go.Proofs.YtnippamifihdpaaGreatDoor
open Go Go.RowKit

set_option maxRecDepth 100000 in
set_option maxHeartbeats 4000000 in
theorem len_any (v : Value) (ad : Option Addr) (n c : Nat) (w : World) (hv : v = .slice ad n c) :
    Calls Tryz.prog 325 #[v] w fun r w' => r = .returned (.int .i64 n) ∧ w = w' := by
  subst hv
  go_enter Tryz.func325, Tryz.ntmps325
  go_wp2_with fail
  go_ret
  exact ⟨rfl, rfl⟩

/-- What a heap's function leaves: the row in another order, a heap, in the agenda's block. -/
structure HeapPost (w w' : World) (pa : Nat) (pcs : Array Value) (V : Nat → Ent) (row : List Nat) (S : Nat → Prop) (v' : Value) (row' : List Nat) : Prop where
  at_ : AgRow w' v' row' V
  perm : row'.Perm row
  heap : IsHeapN V row' row'.length
  blk : Blk w' pa (pcs.setIfInBounds 0 v') 211
  fr : Fr S w w'
  own : ∀ g, v'.ownBlock = some g → S g ∨ w.heap.size ≤ g

set_option maxRecDepth 100000 in
set_option maxHeartbeats 4000000 in
theorem heapPush_any (pa e : Nat) (v p : Value) (row : List Nat) (V : Nat → Ent) (pcs : Array Value) (w : World) (h : AgRow w v row V) (hheap : IsHeapN V row row.length)
    (hp : Blk w pa pcs 211) (h0 : pcs[0]? = some v)
    (he : Blk w e #[.int .i64 (V e).id, .int .i64 (V e).at_, .int .i64 (V e).turn, p] 213) (hne : e ∉ row) (hn : row.length ≤ 65000) :
    Calls Tryz.prog 159 #[.iface 215 (ptr pa), .iface 205 (ptr e)] w fun r w' => r = .returned (.tuple #[]) ∧
      ∃ v' row', HeapPost w w' pa pcs V (row ++ [e]) (fun b => b = pa ∨ RowFp v (row ++ [e]) b) v' row' := by
  have hm := m_push pa w
  have H := hid h
  have HH := hid hheap
  have HP := hid hp
  have H00 := hid h0
  have HE := hid he
  clear h hheap hp h0 he
  go_enter Tryz.func159, Tryz.ntmps159
  go_wp2_with (first
    | (go_at_call 329; refine (push_any pa e v p row V pcs w H.out HP.out H00.out HE.out hne (by omega)).mono ?_; rintro r w1 ⟨rfl, v1, hA, hB, hF, hO⟩; obtain ⟨ad, c, hv⟩ := hA.slice; have hsz : 0 < pcs.size := (Array.getElem?_eq_some_iff.1 H00.out).1; have hc := hA.agCell hB (by simp [hsz]); have hm2 := m_len pa v1 w1 hc.cell; have HA := hid hA; have HB := hid hB; have HF := hid hF; have HO := hid hO; have HC := hid hc; have HV := hid hv; clear hA hB hF hO hc hv)
    | (go_at_call 325; refine (len_any v1 ad _ c w1 HV.out).mono ?_; rintro r w2 ⟨rfl, rfl⟩)
    | (go_at_call 224; refine (up_any pa v1 (row ++ [e]) V (row.length + 1) row.length w1 HA.out HC.out (by omega) (by simp) HH.out.pushed (by simp [maxLen]; omega)).mono ?_; rintro r w3 ⟨rfl, row', hR, hI⟩))
  go_end0
  have hp3 : Blk w3 pa (pcs.setIfInBounds 0 v1) 211 := HB.out.fr hR.fr HC.out.out
  have hown : ∀ g, v1.ownBlock = some g → (g = pa ∨ RowFp v (row ++ [e]) g) ∨ w.heap.size ≤ g := by
    intro g hg
    rcases HO.out with h | ⟨g', h, hl⟩
    · exact .inl (.inr (.inl (by rw [← h, hg])))
    · rw [hg] at h; injection h with h; exact .inr (by omega)
  refine ⟨rfl, v1, row', hR.at_, hR.perm, ?_, hp3, ?_, hown⟩
  · rw [hR.perm.length_eq, List.length_append]
    exact hI
  · refine (HF.out.mono ?_).trans' hR.fr ?_
    · rintro b _ (h | h | h)
      · exact .inl h
      · exact .inr (.inr (by simp [h]))
      · exact .inr (.inl h)
    · rintro b hb (h | h)
      · rcases hown b h.symm with h | h
        · exact h
        · omega
      · exact .inr (.inr h)

def RmPost (w w' : World) (pa : Nat) (pcs : Array Value) (V : Nat → Ent) (row : List Nat) (v : Value) (i : Nat) (r : Ending) : Prop :=
  r = .returned (.iface 205 (ptr (nth row i))) ∧ ∃ v' row', HeapPost w w' pa pcs V (row.erase (nth row i)) (fun b => b = pa ∨ RowFp v row b) v' row'

theorem nth_take {l : List Nat} {n k : Nat} (h : k < n) : nth (l.take n) k = nth l k := by
  unfold nth
  simp [List.getD_eq_getElem?_getD, h]

/-- The row without its last place, of which that place held x. -/
theorem take_perm_erase {row row' : List Nat} {n x : Nat} (hl : row.length = n + 1) (h : row'.Perm row) (hx : nth row' n = x) : (row'.take n).Perm (row.erase x) := by
  have hl' : row'.length = n + 1 := h.length_eq.trans hl
  have e : row' = row'.take n ++ [x] := by
    have h1 := List.take_append_drop n row'
    have h2 : row'.drop n = [x] := by
      rw [List.drop_eq_getElem_cons (by omega), List.drop_eq_nil_of_le (by omega)]
      have := nth_eq row' n (by omega)
      rw [List.getElem?_eq_getElem (by omega), hx] at this
      simpa using this
    rw [h2] at h1
    exact h1.symm
  have h3 : (row'.take n ++ [x]).Perm row := e ▸ h
  have h4 : (x :: row'.take n).Perm row := (List.perm_append_comm (l₁ := [x]) (l₂ := row'.take n)).trans h3
  have h5 := h4.erase x
  simpa using h5

/-- Behind Pop: the row without its last place. -/
theorem pop_post {w w1 : World} {pa n cap g i x : Nat} {pcs : Array Value} {V : Nat → Ent} {row row' : List Nat} {v : Value} (hl : row.length = n + 1) (hv : v = .slice (some ⟨g, 0, none⟩) (n + 1) cap)
    (hp : Blk w pa pcs 211) (h : AgRow w v row V) (hA : AgRow w1 v row' V) (hperm : row'.Perm row) (hfr : Fr (RowFp v row) w w1) (hx : nth row' n = x) (hxi : x = nth row i) (hI : IsHeapN V row' n) :
    RmPost w (w1.setCell ⟨pa, 0, none⟩ (.slice (some ⟨g, 0, none⟩) n cap)) pa pcs V row v i (.returned (.iface 205 (ptr x))) := by
  have hl' : row'.length = n + 1 := hperm.length_eq.trans hl
  have hout := h.out hp
  have hp1 : Blk w1 pa pcs 211 := hp.fr hfr hout
  have hgp : g ≠ pa := fun e => hout (.inl (by rw [hv]; exact congrArg some e.symm))
  refine ⟨by rw [hxi], .slice (some ⟨g, 0, none⟩) n cap, row'.take n, ⟨?_, ?_, ?_⟩, ?_, ?_, hp1.setCell 0 _, ?_, ?_⟩
  · have hlen : (row'.take n).length = n := by rw [List.length_take]; omega
    rw [hlen]
    obtain ⟨ho1, ho2⟩ := hA.own
    refine ⟨by simp; omega, ?_⟩
    rcases ho2 with ⟨h1, h2⟩ | ⟨g', cap', cur, h1, _, h3, h4, h5, h6, h7⟩
    · omega
    · rw [hv] at h1
      injection h1 with h1 h8 h9
      injection h1 with h1
      injection h1 with h1
      subst h1 h9
      refine .inr ⟨g, cap, cur, rfl, Nat.zero_le _, ?_, by omega, h5, h6, ?_⟩
      · rw [Below.heap_setCell _ _ _ _ (show g ≠ (⟨pa, 0, none⟩ : Addr).block from hgp)]
        exact h3
      · rw [List.map_take, ← h7, List.take_take]
        congr 1
        omega
  · intro k hk
    rw [List.length_take] at hk
    rw [nth_take (by omega)]
    have hek := hA.ent k (by omega)
    refine hek.setCell_other (p := ⟨pa, 0, none⟩) (fun e => hout (.inr ?_)) _
    rw [← show nth row' k = pa from e]
    exact hperm.mem_iff.1 (nth_mem row' k (by omega))
  · exact (List.take_sublist n row').nodup hA.nodup
  · rw [← hxi]
    exact take_perm_erase hl hperm hx
  · rw [List.length_take, show min n row'.length = n from by omega]
    intro k k0 hk
    have := hI k k0 hk
    unfold at' at this ⊢
    rw [nth_take hk, nth_take (by omega)]
    exact this
  · exact (hfr.mono fun _ _ h => .inr h).setCell (p := ⟨pa, 0, none⟩) (.inl (.inl rfl)) _
  · intro g' hg'
    injection hg' with hg'
    exact .inl (.inr (.inl (by rw [hv]; exact congrArg some hg'.symm)))
theorem IsHeapN.up {V : Nat → Ent} {l : List Nat} {n : Nat} (h : IsHeapN V l n) (j : Nat) : HeapUp V l n j :=
  ⟨fun k k0 hk _ => h k k0 hk, fun k k0 hk hp hpos => by
    have h1 := h k k0 hk
    have h2 := h j hpos (by omega)
    rw [hp] at h1
    exact Ent.not_lt_trans h1 h2⟩

/-- Ahead of Pop: the row in another order, with what goes at its end. -/
structure RmMid (w wr : World) (pa g cap n i : Nat) (v : Value) (V : Nat → Ent) (row row' : List Nat) : Prop where
  A : AgRow wr v row' V
  perm : row'.Perm row
  fr : Fr (RowFp v row) w wr
  x : nth row' n = nth row i
  c0 : wr.cell? ⟨pa, 0, none⟩ = some (.slice (some ⟨g, 0, none⟩) (n + 1 : Nat) cap)
  f0 : wr.frozen? ⟨pa, 0, none⟩ = false
  cg : wr.cell? ⟨g, n, none⟩ = some (ptr (nth row i))

theorem RmMid.of {w wr : World} {pa g cap n i : Nat} {v : Value} {V : Nat → Ent} {row row' : List Nat} {pcs : Array Value} (hv : v = .slice (some ⟨g, 0, none⟩) (n + 1 : Nat) cap) (hn : row.length = n + 1)
    (hp : Blk w pa pcs 211) (h0 : pcs[0]? = some v) (h : AgRow w v row V) (A : AgRow wr v row' V) (perm : row'.Perm row) (fr : Fr (RowFp v row) w wr) (x : nth row' n = nth row i) :
    RmMid w wr pa g cap n i v V row row' := by
  have hp1 := hp.fr fr (h.out hp)
  have hl := perm.length_eq
  obtain ⟨g', cap', cur, hv', hg, _, _, _, hcell⟩ := A.at (by omega)
  have hg' : g' = g := by
    rw [hv] at hv'
    injection hv' with h1
    injection h1 with h1
    injection h1 with h1
    exact h1.symm
  subst hg'
  exact ⟨A, perm, fr, x, hv ▸ (hp1.cell 0).trans h0, hp1.frozen 0, x ▸ hcell n (by omega)⟩

theorem RowStep.mid {w w1 w2 : World} {pa : Nat} {v : Value} {V : Nat → Ent} {row row1 row2 : List Nat} {n : Nat} (hp1 : row1.Perm row) (hf : Fr (RowFp v row) w w1) (h : RowStep w1 w2 pa v V row1 row2 n) :
    row2.Perm row ∧ Fr (RowFp v row) w w2 := ⟨h.perm.trans hp1, hf.trans' h.fr fun _ _ k => k.perm hp1⟩

/-- What down leaves behind a removal's swap: where it has not moved, what up wants; where it has, a heap. -/
theorem rm_down {w w1 w2 : World} {pa g cap n i : Nat} {v : Value} {V : Nat → Ent} {row row2 : List Nat} {pcs : Array Value} {b : Bool} (hheap : IsHeapN V row (n + 1)) (hn : row.length = n + 1) (hlt : i < n) 
    (hup : (i = 0 ∨ ¬ (at' V row n).lt (at' V row ((i - 1) / 2))) ∨ (0 < i ∧ (at' V row n).lt (at' V row ((i - 1) / 2)))) (hp : Blk w pa pcs 211) (h0 : pcs[0]? = some v)
    (hv : v = .slice (some ⟨g, 0, none⟩) (n + 1 : Nat) cap) (h : AgRow w v row V) (hsw : (swap row i n).Perm row) (hx : nth (swap row i n) n = nth row i) (hF : Fr (RowFp v row) w w1)
    (hR : RowStep w1 w2 pa v V (swap row i n) row2 n) (hD : HeapDown V (swap row i n) n i → IsHeapN V row2 n) (hE : b = false → row2 = swap row i n)
    (hN : (∀ c, 0 < c → c < n → (c - 1) / 2 = i → ¬ (at' V (swap row i n) c).lt (at' V (swap row i n) i)) → b = false) :
    (b = false → AgRow w2 v (swap row i n) V ∧ HeapUp V (swap row i n) n i ∧ Fr (RowFp v row) w w2) ∧ (b = true → RmMid w w2 pa g cap n i v V row row2 ∧ IsHeapN V row2 n) := by
  have hfr := (hR.mid hsw hF).2
  constructor
  · intro hb
    have e := hE hb
    subst e
    refine ⟨hR.at_, ?_, hfr⟩
    rcases hup with hq | ⟨hz, hq⟩
    · exact (hD (hheap.moved hn hlt hq)).up i
    · exact (hheap.moved_up hn hlt hz hq).1
  · intro hb
    refine ⟨RmMid.of hv hn hp h0 h hR.at_ (hR.mid hsw hF).1 hfr ((hR.tail n (Nat.le_refl _)).trans hx), ?_⟩
    rcases hup with hq | ⟨hz, hq⟩
    · exact hD (hheap.moved hn hlt hq)
    · have := hN (hheap.moved_up hn hlt hz hq).2
      rw [hb] at this
      cases this

set_option maxRecDepth 100000 in
set_option maxHeartbeats 8000000 in
theorem heapRemove_any (pa i n : Nat) (v : Value) (row : List Nat) (V : Nat → Ent) (pcs : Array Value) (w : World) (h : AgRow w v row V) (hheap : IsHeapN V row row.length)
    (hp : Blk w pa pcs 211) (h0 : pcs[0]? = some v) (hn : row.length = n + 1) (hi : i ≤ n) (hmax : row.length ≤ 65000) :
    Calls Tryz.prog 161 #[.iface 215 (ptr pa), .int .i64 i] w fun r w' => RmPost w w' pa pcs V row v i r := by
  have hc := h.agCell hp h0
  obtain ⟨g, cap, cur, hv, hg, hcap, hm, hs, hcell⟩ := h.at (by omega)
  rw [hn] at hv hcap
  have hml := m_len pa v w hc.cell
  have hms := m_swap pa v w hc.cell
  have hmp := m_pop pa
  have hn16 : n ≤ 65000 := by omega
  have hln : n < row.length := by omega
  have hli : i < row.length := by omega
  have hgc := hcell n (by omega)
  rw [hn] at hheap
  have e1 : ((n + 1 : Nat) : Int) - 1 = (n : Int) := by omega
  have HV := hid hv
  have H := hid h
  have HH := hid hheap
  have HP := hid hp
  have HC := hid hc
  have HN := hid hn
  have HG := hid hgc
  have HF0 : Hid (w.frozen? ⟨pa, 0, none⟩ = false) := hid (hp.frozen 0)
  have hcap' : n + 1 ≤ cap := hcap
  by_cases hin : i = n
  · subst hin
    have hne : ((i : Int) != (i : Int)) = false := by simp
    have c0 : w.cell? ⟨pa, 0, none⟩ = some (.slice (some ⟨g, 0, none⟩) (i + 1 : Nat) cap) := hc.cell.trans (by rw [hv])
    have HC0 := hid c0
    clear h hheap hp h0 hc hv hg hm hs hcell hcap hn hgc c0 hmax
    go_enter Tryz.func161, Tryz.ntmps161
    go_wp2_with (first
      | (go_at_call 325; refine (len_any v (some ⟨g, 0, none⟩) (i + 1) cap w HV.out).mono ?_; rintro r w2 ⟨rfl, rfl⟩)
      | (go_at_call 328; refine (pop_raw pa g i cap (nth row i) w (by omega) hcap' HC0.out HF0.out HG.out).mono ?_; rintro r w2 ⟨rfl, rfl⟩))
    go_ret
    exact pop_post HN.out HV.out HP.out H.out H.out (.refl _) (Fr.refl _ _) rfl rfl (fun k k0 hk => HH.out k k0 (by omega))
  · have hlt : i < n := by omega
    have hne : ((n : Int) != (i : Int)) = true := by simp; omega
    have HH0 := hid h0
    -- what the swap leaves
    have hsw : (swap row i n).Perm row := swap_perm row i n hli hln
    have hx1 : nth (swap row i n) n = nth row i := by rw [getD_swap row i n n hli hln, if_pos rfl]
    have HSW := hid hsw
    have HX1 := hid hx1
    have hls : n ≤ (swap row i n).length := by rw [length_swap]; omega
    have hls2 : (swap row i n).length ≤ 65000 := by rw [length_swap]; omega
    have hup : (i = 0 ∨ ¬ (at' V row n).lt (at' V row ((i - 1) / 2))) ∨ (0 < i ∧ (at' V row n).lt (at' V row ((i - 1) / 2))) := by
      by_cases hq : (at' V row n).lt (at' V row ((i - 1) / 2))
      · by_cases hz : i = 0
        · exact .inl (.inl hz)
        · exact .inr ⟨by omega, hq⟩
      · exact .inl (.inr hq)
    have HUP := hid hup
    have hin' : i ≠ n := hin
    clear h hheap hp h0 hc hv hg hm hs hcell hcap hn hgc hsw hx1 hup hin
    go_enter Tryz.func161, Tryz.ntmps161
    go_wp2_with (first
      | (go_at_call 325; refine (len_any v (some ⟨g, 0, none⟩) (n + 1) cap w HV.out).mono ?_; rintro r w2 ⟨rfl, rfl⟩)
      | (go_at_call 327; refine (swap_any v row V i n w H.out hli hln hin').mono ?_; rintro r w1 ⟨rfl, hA, hF⟩; have hc1 : AgCell w1 pa v (swap row i n) := hA.agCell (HP.out.fr hF (H.out.out HP.out)) HH0.out; have HA := hid hA; have HF := hid hF; have HC1 := hid hc1; clear hA hF hc1)
      | (go_at_call 223; refine (down_any pa v (swap row i n) V n i w1 HA.out HC1.out hlt hls (by omega)).mono ?_; rintro r w2 ⟨b, row2, rfl, hR, hD, hE, hN⟩; have HD := hid (rm_down HH.out HN.out hlt HUP.out HP.out HH0.out HV.out H.out HSW.out HX1.out HF.out hR hD hE hN); have HRC := hid hR.cell; clear hR hD hE hN; cases b)
      | (go_at_call 224; refine (up_any pa v (swap row i n) V n i w2 (HD.out.1 (by simp)).1 ⟨HRC.out, World.block_lt_of_cell? _ _ HRC.out, HC1.out.out⟩ hlt hls (HD.out.1 (by simp)).2.1 (by unfold maxLen; omega)).mono ?_; rintro r w3 ⟨rfl, row3, hR3, hI3⟩; have HM : Hid (RmMid w w3 pa g cap n i v V row row3 ∧ IsHeapN V row3 n) := hid ⟨RmMid.of HV.out HN.out HP.out HH0.out H.out hR3.at_ (hR3.mid (w := w) HSW.out (HD.out.1 (by simp)).2.2).1 (hR3.mid HSW.out (HD.out.1 (by simp)).2.2).2 ((hR3.tail n (Nat.le_refl _)).trans HX1.out), hI3⟩; clear hR3 hI3)
      | (go_at_call 328; refine (pop_raw pa g n cap (nth row i) _ (by omega) hcap' HM.out.1.c0 HM.out.1.f0 HM.out.1.cg).mono ?_; rintro r w4 ⟨rfl, rfl⟩)
      | (go_at_call 328; refine (pop_raw pa g n cap (nth row i) _ (by omega) hcap' (HD.out.2 (by simp)).1.c0 (HD.out.2 (by simp)).1.f0 (HD.out.2 (by simp)).1.cg).mono ?_; rintro r w4 ⟨rfl, rfl⟩))
    · go_ret
      exact pop_post HN.out HV.out HP.out H.out HM.out.1.A HM.out.1.perm HM.out.1.fr HM.out.1.x rfl HM.out.2
    · go_ret
      exact pop_post HN.out HV.out HP.out H.out (HD.out.2 (by simp)).1.A (HD.out.2 (by simp)).1.perm (HD.out.2 (by simp)).1.fr (HD.out.2 (by simp)).1.x rfl (HD.out.2 (by simp)).2
end Go.Proofs.YtnippamifihdpaaGreatDoor
