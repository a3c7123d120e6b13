/- agenda: what an agenda holds, and its plain calls (New, Len, At, First). agenda: At and First. agenda: Set of a new id, Drop. agenda: Drop. agenda: Due. -/
import Derived.Test.YtnippamifihdpaaGreatDoorKAg2
import Derived.Test.YtnippamifihdpaaGreatDoorKBase
import Derived.BigQuiet
import Derived.Deep.QuietTactic
import Derived.Deep.RegionWith
namespace Go.Proofs.YtnippamifihdpaaGreatDoor
open Go Go.RowKit

/-- What a map of entries holds: of each entry of the row its id and its block. -/
def entOf (V : Nat → Ent) (b : Nat) : Value × Value := (.int .i64 (V b).id, ptr b)

/-- All that lies behind an agenda's block. -/
structure AgG (w : World) (pa : Nat) (v : Value) (m : Nat) (row : List Nat) (V : Nat → Ent) (ents : Array MapEntry) (clock : Nat) (turns : Nat) (es : List Ent) : Prop where
  blk : Blk w pa #[v, .map (some m), .int .i64 turns] 211
  rw_ : AgRow w v row V
  heap : IsHeapN V row row.length
  mp : w.heap[m]? = some (.map ents clock)
  keys : ∀ e ∈ ents.toList, PlainKey (.int .i64) e.key
  perm : (ents.toList.map fun e => (e.key, e.val)).Perm (row.map (entOf V))
  ids : (row.map fun b => (V b).id).Nodup
  eq_ : es.Perm (row.map V)
  sorted : es.Pairwise Ent.lt
  turn : ∀ e ∈ es, e.turn ≤ turns

/-- The blocks of an agenda. -/
def AgFp (pa : Nat) (v : Value) (m : Nat) (row : List Nat) (b : Nat) : Prop := b = pa ∨ b = m ∨ RowFp v row b

/-- An agenda at a block: its entries in their order, how often one was set; D: its blocks. -/
def Ag (w : World) (pa : Nat) (es : List Ent) (turns : Nat) (D : Nat → Prop) : Prop :=
  ∃ v m row V ents clock, AgG w pa v m row V ents clock turns es ∧ ∀ b, D b ↔ AgFp pa v m row b

theorem AgG.fr {S : Nat → Prop} {w w' : World} {pa : Nat} {v : Value} {m : Nat} {row : List Nat} {V : Nat → Ent} {ents : Array MapEntry} {clock turns : Nat} {es : List Ent}
    (h : AgG w pa v m row V ents clock turns es) (k : Fr S w w') (hn : ∀ b, AgFp pa v m row b → ¬ S b) : AgG w' pa v m row V ents clock turns es :=
  ⟨h.blk.fr k (hn _ (.inl rfl)), ⟨ownsRow_fr h.rw_.own k fun b hb => hn b (.inr (.inr (.inl hb))), fun i hi => (h.rw_.ent i hi).fr k (hn _ (.inr (.inr (.inr (nth_mem _ _ hi))))), h.rw_.nodup⟩,
    h.heap, k.obj h.mp (hn _ (.inr (.inl rfl))), h.keys, h.perm, h.ids, h.eq_, h.sorted, h.turn⟩
theorem Ag.fr {S : Nat → Prop} {w w' : World} {pa : Nat} {es : List Ent} {turns : Nat} {D : Nat → Prop} (h : Ag w pa es turns D) (k : Fr S w w') (hn : ∀ b, D b → ¬ S b) : Ag w' pa es turns D := by
  obtain ⟨v, m, row, V, ents, clock, g, hD⟩ := h
  exact ⟨v, m, row, V, ents, clock, g.fr k fun b hb => hn b ((hD b).2 hb), hD⟩
theorem AgG.lt {w : World} {pa : Nat} {v : Value} {m : Nat} {row : List Nat} {V : Nat → Ent} {ents : Array MapEntry} {clock turns : Nat} {es : List Ent}
    (h : AgG w pa v m row V ents clock turns es) {b : Nat} (hb : AgFp pa v m row b) : b < w.heap.size := by
  rcases hb with rfl | rfl | hb | hb
  · exact h.blk.lt
  · exact (Array.getElem?_eq_some_iff.1 h.mp).1
  · obtain ⟨cur, hc⟩ := h.rw_.own_type hb; exact hc.lt
  · obtain ⟨k, _, _, hc⟩ := h.rw_.mem_type hb; exact hc.lt
theorem Ag.lt {w : World} {pa : Nat} {es : List Ent} {turns : Nat} {D : Nat → Prop} (h : Ag w pa es turns D) {b : Nat} (hb : D b) : b < w.heap.size := by
  obtain ⟨v, m, row, V, ents, clock, g, hD⟩ := h
  exact g.lt ((hD b).1 hb)
theorem Ag.at_pa {w : World} {pa : Nat} {es : List Ent} {turns : Nat} {D : Nat → Prop} (h : Ag w pa es turns D) : D pa := by
  obtain ⟨v, m, row, V, ents, clock, g, hD⟩ := h
  exact (hD pa).2 (.inl rfl)

set_option maxRecDepth 100000 in
set_option maxHeartbeats 4000000 in
theorem agNew_any (w : World) : Calls Tryz.prog 104 #[] w fun r w' => ∃ pa, r = .returned (ptr pa) ∧ Ext w w' ∧ ∃ D, Ag w' pa [] 0 D ∧ ∀ b, D b → w.heap.size ≤ b := by
  have hmm := @run_makeMap Tryz.prog
  go_enter Tryz.func104, Tryz.ntmps104
  go_wp2_with fail
  go_ret
  refine ⟨w.heap.size + 1, rfl, ((Ext.refl w).alloc _).alloc _, AgFp (w.heap.size + 1) (.slice none 0 0) w.heap.size [], ⟨.slice none 0 0, w.heap.size, [], fun _ => ⟨0, 0, 0⟩, #[], 0, ⟨?_, ?_, ?_, ?_, ?_, ?_, ?_, ?_, ?_, ?_⟩, fun _ => Iff.rfl⟩, ?_⟩
  · have := Blk.new (w.alloc (.map #[] 0)) #[.slice none 0 0, .map (some w.heap.size), .int .i64 0] 211
    simpa using this
  · exact ⟨World.ownsRow_nil _ _ _ _, by simp, by simp⟩
  · intro k k0 hk; simp at hk
  · exact (Below.heap_alloc _ _ _ (by simp)).trans (heap_alloc_new w _)
  · simp
  · simp
  · simp
  · simp
  · simp
  · simp
  · rintro b (rfl | rfl | h | h)
    · omega
    · omega
    · simp [Value.ownBlock] at h
    · simp at h

set_option maxRecDepth 100000 in
set_option maxHeartbeats 4000000 in
theorem agLen_any (pa : Nat) (es : List Ent) (turns : Nat) (D : Nat → Prop) (w : World) (h : Ag w pa es turns D) :
    Calls Tryz.prog 74 #[ptr pa] w fun r w' => r = .returned (.int .i64 es.length) ∧ w = w' := by
  obtain ⟨v, m, row, V, ents, clock, g, hD⟩ := h
  have hl : es.length = row.length := by rw [g.eq_.length_eq, List.length_map]
  obtain ⟨ad, c, rfl⟩ := g.rw_.slice
  have c0 := (g.blk.cell 0).trans rfl
  have HL := hid hl
  clear g hD hl
  go_enter Tryz.func74, Tryz.ntmps74
  go_wp2_with fail
  go_ret
  exact ⟨by rw [HL.out]; rfl, rfl⟩
end Go.Proofs.YtnippamifihdpaaGreatDoor
namespace Go.Proofs.YtnippamifihdpaaGreatDoor
open Go Go.RowKit

/-- The entry of an id. -/
def getE (es : List Ent) (id : Int) : Option Ent := es.find? fun e => decide (e.id = id)

theorem getE_some {es : List Ent} {id : Int} {e : Ent} (h : getE es id = some e) : e ∈ es ∧ e.id = id := by
  have := List.find?_some h
  exact ⟨List.mem_of_find?_eq_some h, by simpa using this⟩
theorem getE_none {es : List Ent} {id : Int} (h : ∀ e ∈ es, e.id ≠ id) : getE es id = none := by
  unfold getE
  rw [List.find?_eq_none]
  simpa using h
theorem getE_of {es : List Ent} {id : Int} {e : Ent} (hn : (es.map (·.id)).Nodup) (he : e ∈ es) (hi : e.id = id) : getE es id = some e := by
  cases hq : getE es id with
  | none =>
    unfold getE at hq
    rw [List.find?_eq_none] at hq
    exact absurd hi (by simpa using hq e he)
  | some f =>
    obtain ⟨h1, h2⟩ := getE_some hq
    congr 1
    obtain ⟨i, hi', e1⟩ := List.mem_iff_getElem.1 he
    obtain ⟨j, hj', e2⟩ := List.mem_iff_getElem.1 h1
    have h3 : i = j := (List.getElem_inj (xs := es.map (·.id)) (h₀ := by simpa using hi') (h₁ := by simpa using hj') hn).1 (by simp [e1, e2, hi, h2])
    subst h3
    exact e2.symm.trans e1

section
variable {w : World} {pa : Nat} {v : Value} {m : Nat} {row : List Nat} {V : Nat → Ent} {ents : Array MapEntry} {clock turns : Nat} {es : List Ent}

theorem AgG.nodupE (h : AgG w pa v m row V ents clock turns es) : (es.map (·.id)).Nodup := by
  have h1 := h.eq_.map (·.id)
  rw [List.map_map] at h1
  exact h1.nodup_iff.2 h.ids

theorem AgG.find (h : AgG w pa v m row V ents clock turns es) (id : Int) :
    (∃ j b e, Instr.findNow (.int .i64) (.int .i64 id) ents.toList 0 = some (some (j, ptr b)) ∧ b ∈ row ∧ (V b).id = id ∧ ents.toList[j]? = some e ∧ (e.key, e.val) = entOf V b ∧ getE es id = some (V b)) ∨
    (Instr.findNow (.int .i64) (.int .i64 id) ents.toList 0 = some none ∧ (∀ b ∈ row, (V b).id ≠ id) ∧ getE es id = none) := by
  rcases findNow_plain (PlainKey.int .i64 id) ents.toList 0 h.keys with ⟨h1, h2⟩ | ⟨j, e, h1, h2, h3⟩
  · right
    have hb : ∀ b ∈ row, (V b).id ≠ id := by
      intro b hb hq
      have : entOf V b ∈ ents.toList.map fun e => (e.key, e.val) := h.perm.mem_iff.2 (List.mem_map.2 ⟨b, hb, rfl⟩)
      obtain ⟨e, he, hx⟩ := List.mem_map.1 this
      have hk : e.key = .int .i64 id := by rw [show e.key = (entOf V b).1 from congrArg Prod.fst hx]; simp [entOf, hq]
      exact h2 e he hk
    refine ⟨h1, hb, getE_none fun e he => ?_⟩
    obtain ⟨b, hbr, rfl⟩ := List.mem_map.1 (h.eq_.mem_iff.1 he)
    exact hb b hbr
  · left
    have hmem : (e.key, e.val) ∈ ents.toList.map fun e => (e.key, e.val) := List.mem_map.2 ⟨e, List.mem_of_getElem? h2, rfl⟩
    obtain ⟨b, hb, hx⟩ := List.mem_map.1 (h.perm.mem_iff.1 hmem)
    have hv : e.val = ptr b := (congrArg Prod.snd hx).symm
    have hi : (V b).id = id := by
      have := congrArg Prod.fst hx
      rw [h3] at this
      simp [entOf] at this
      exact this
    refine ⟨j, b, e, by rw [← hv]; simpa using h1, hb, hi, h2, hx.symm, ?_⟩
    exact getE_of h.nodupE (h.eq_.mem_iff.2 (List.mem_map.2 ⟨b, hb, rfl⟩)) hi
end

theorem zeroPE (w : World) : (zeroValue 205).run Tryz.prog w = .ok (.pointer none) w := by kernel_rfl
theorem undAgMap : Tryz.prog.underlying 209 = some (.map 3 205) := by kernel_rfl
theorem undInt : Tryz.prog.underlying 3 = some (.int .i64) := by kernel_rfl

/-- What At answers. -/
def atV (es : List Ent) (id : Int) : Value := match getE es id with | some e => .tuple #[.int .i64 e.at_, .bool true] | none => .tuple #[.int .i64 0, .bool false]

set_option maxRecDepth 100000 in
set_option maxHeartbeats 4000000 in
theorem agAt_any (pa : Nat) (es : List Ent) (turns : Nat) (D : Nat → Prop) (id : Int) (w : World) (h : Ag w pa es turns D) :
    Calls Tryz.prog 70 #[ptr pa, .int .i64 id] w fun r w' => r = .returned (atV es id) ∧ w = w' := by
  obtain ⟨v, m, row, V, ents, clock, g, hD⟩ := h
  have c1 : w.cell? ⟨pa, 1, none⟩ = some (.map (some m)) := (g.blk.cell 1).trans rfl
  rcases g.find id with ⟨j, b, e, hf, hb, hi, hj, hx, hg⟩ | ⟨hf, hb, hg⟩
  · have hv : e.val = ptr b := congrArg Prod.snd hx
    have hlk := run_lookup_hit undAgMap undInt w g.mp (.int .i64 id) j e (by rw [hf, hv])
    rw [hv] at hlk
    obtain ⟨k, _, _, hc⟩ := g.rw_.mem_type hb
    have cb : w.cell? ⟨b, 1, none⟩ = some (.int .i64 (V b).at_) := (hc.cell 1).trans rfl
    have HG := hid hg
    clear g hD hf hb hi hj hx hg hv hc
    go_enter Tryz.func70, Tryz.ntmps70
    go_wp2_with fail
    go_ret2
    exact ⟨by rw [atV, HG.out]; rfl, rfl⟩
  · have hlk := run_lookup_miss undAgMap undInt zeroPE w g.mp (.int .i64 id) hf
    have HG := hid hg
    clear g hD hf hb hg
    go_enter Tryz.func70, Tryz.ntmps70
    go_wp2_with fail
    go_ret2
    exact ⟨by rw [atV, HG.out]; rfl, rfl⟩

/-- What First answers. -/
def firstV (es : List Ent) : Value := match es with | e :: _ => .tuple #[.int .i64 e.id, .int .i64 e.at_, .bool true] | [] => .tuple #[.int .i64 0, .int .i64 0, .bool false]

theorem AgG.first {w : World} {pa : Nat} {v : Value} {m : Nat} {row : List Nat} {V : Nat → Ent} {ents : Array MapEntry} {clock turns : Nat} {es : List Ent} (h : AgG w pa v m row V ents clock turns es) {e : Ent} {l : List Ent}
    (he : es = e :: l) : 0 < row.length ∧ V (nth row 0) = e := by
  have hl : es.length = row.length := by rw [h.eq_.length_eq, List.length_map]
  have h0 : 0 < row.length := by rw [← hl, he]; simp
  refine ⟨h0, ?_⟩
  have hmem : e ∈ row.map V := h.eq_.mem_iff.1 (by simp [he])
  obtain ⟨b, hb, hx⟩ := List.mem_map.1 hmem
  obtain ⟨k, hk, e2⟩ := mem_nth hb
  have h1 := h.heap.first k hk
  have hm2 : V (nth row 0) ∈ es := h.eq_.mem_iff.2 (List.mem_map.2 ⟨_, nth_mem row 0 h0, rfl⟩)
  rw [he] at hm2
  rcases List.mem_cons.1 hm2 with h2 | h2
  · exact h2
  · have hs := h.sorted
    rw [he, List.pairwise_cons] at hs
    have := hs.1 _ h2
    unfold at' at h1
    rw [e2, hx] at h1
    exact (h1 this).elim

set_option maxRecDepth 100000 in
set_option maxHeartbeats 4000000 in
theorem agFirst_any (pa : Nat) (es : List Ent) (turns : Nat) (D : Nat → Prop) (w : World) (h : Ag w pa es turns D) :
    Calls Tryz.prog 160 #[ptr pa] w fun r w' => r = .returned (firstV es) ∧ ∃ n, w' = w.drewN n := by
  obtain ⟨v, m, row, V, ents, clock, g, hD⟩ := h
  have hl : es.length = row.length := by rw [g.eq_.length_eq, List.length_map]
  cases es with
  | nil =>
    have h0 : row.length = 0 := hl.symm
    obtain ⟨ad, c, hv⟩ := g.rw_.slice
    have c0 : w.cell? ⟨pa, 0, none⟩ = some (.slice ad 0 c) := (g.blk.cell 0).trans (by rw [hv, h0]; rfl)
    clear g hD hl h0 hv
    go_enter Tryz.func160, Tryz.ntmps160
    go_wp2_with fail
    go_ret3
    exact ⟨rfl, 0, rfl⟩
  | cons e l =>
    obtain ⟨h0, hV⟩ := g.first rfl
    obtain ⟨gb, cap, cur, hv, hg, hcap, hm, hs, hcell⟩ := g.rw_.at h0
    have c0 : w.cell? ⟨pa, 0, none⟩ = some (.slice (some ⟨gb, 0, none⟩) row.length cap) := (g.blk.cell 0).trans (by rw [hv]; rfl)
    have cg := hcell 0 h0
    have hb := g.rw_.ent 0 h0
    rw [hV] at hb
    have ci : w.cell? ⟨nth row 0, 0, none⟩ = some (.int .i64 e.id) := (hb.cell 0).trans rfl
    have ca : w.cell? ⟨nth row 0, 1, none⟩ = some (.int .i64 e.at_) := (hb.cell 1).trans rfl
    have hne : ((row.length : Int) == 0) = false := by rw [beq_eq_false_iff_ne]; omega
    have h0' : (0 : Int) < (row.length : Int) := by omega
    clear g hD hl hV hv hg hcap hm hs hcell hb
    go_enter Tryz.func160, Tryz.ntmps160
    go_wp2_with fail
    go_quiet (fail)
    go_wp2_with fail
    go_ret3
    exact ⟨rfl, _, rfl⟩
end Go.Proofs.YtnippamifihdpaaGreatDoor
namespace Go.Proofs.YtnippamifihdpaaGreatDoor
open Go Go.RowKit

/-- An entry laid among entries, behind those whose time is not later. -/
def insE (e : Ent) : List Ent → List Ent
  | [] => [e]
  | f :: l => if f.at_ ≤ e.at_ then f :: insE e l else e :: f :: l
theorem insE_perm (e : Ent) (l : List Ent) : (insE e l).Perm (e :: l) := by
  induction l with
  | nil => exact .refl _
  | cons f l ih =>
    unfold insE
    split
    · exact (ih.cons f).trans (.swap _ _ _)
    · exact .refl _
theorem insE_sorted {e : Ent} {l : List Ent} (h : l.Pairwise Ent.lt) (ht : ∀ f ∈ l, f.turn < e.turn) : (insE e l).Pairwise Ent.lt := by
  induction l with
  | nil => simp [insE]
  | cons f l ih =>
    rw [List.pairwise_cons] at h
    unfold insE
    split
    · rename_i hle
      rw [List.pairwise_cons]
      refine ⟨fun g hg => ?_, ih h.2 fun g hg => ht g (by simp [hg])⟩
      rcases List.mem_cons.1 ((insE_perm e l).mem_iff.1 hg) with rfl | hg
      · have := ht f (by simp)
        unfold Ent.lt; omega
      · exact h.1 g hg
    · rename_i hle
      rw [List.pairwise_cons, List.pairwise_cons]
      refine ⟨fun g hg => ?_, h.1, h.2⟩
      rcases List.mem_cons.1 hg with rfl | hg
      · unfold Ent.lt; omega
      · have := h.1 g hg
        unfold Ent.lt at *; omega

theorem AgRow.congr {w : World} {v : Value} {row : List Nat} {V V' : Nat → Ent} (h : AgRow w v row V) (hv : ∀ b ∈ row, V' b = V b) : AgRow w v row V' :=
  ⟨h.own, fun k hk => by rw [hv _ (nth_mem row k hk)]; exact h.ent k hk, h.nodup⟩
theorem IsHeapN.congr {V V' : Nat → Ent} {row : List Nat} {n : Nat} (h : IsHeapN V row n) (hn : n ≤ row.length) (hv : ∀ b ∈ row, V' b = V b) : IsHeapN V' row n := by
  intro k k0 hk
  have := h k k0 hk
  unfold at' at *
  rw [hv _ (nth_mem row k (by omega)), hv _ (nth_mem row _ (by omega))]
  exact this
theorem Blk.ne_map {w : World} {b m clock : Nat} {cs : Array Value} {t : TypeId} {es : Array MapEntry} (h : Blk w b cs t) (hm : w.heap[m]? = some (.map es clock)) : b ≠ m := by
  rintro rfl
  rw [show w.heap[b]? = _ from h] at hm
  cases hm
theorem AgG.map_out {w : World} {pa : Nat} {v : Value} {m : Nat} {row : List Nat} {V : Nat → Ent} {ents : Array MapEntry} {clock turns : Nat} {es : List Ent} (h : AgG w pa v m row V ents clock turns es) : m ≠ pa ∧ ¬ RowFp v row m := by
  refine ⟨fun e => h.blk.ne_map h.mp e.symm, ?_⟩
  rintro (hb | hb)
  · obtain ⟨cur, hc⟩ := h.rw_.own_type hb; exact hc.ne_map h.mp rfl
  · obtain ⟨k, _, _, hc⟩ := h.rw_.mem_type hb; exact hc.ne_map h.mp rfl

set_option maxRecDepth 100000 in
set_option maxHeartbeats 8000000 in
theorem agSet_any (pa : Nat) (es : List Ent) (turns : Nat) (D : Nat → Prop) (id at_ : Int) (w : World) (h : Ag w pa es turns D) (hnew : getE es id = none) (hl : es.length ≤ 60000) (ht : turns < 4000000000) :
    Calls Tryz.prog 72 #[ptr pa, .int .i64 id, .int .i64 at_] w fun r w' => r = .returned (.tuple #[]) ∧
      ∃ D', Ag w' pa (insE ⟨id, at_, turns + 1⟩ es) (turns + 1) D' ∧ Fr D w w' ∧ ∀ b, D' b → D b ∨ w.heap.size ≤ b := by
  obtain ⟨v, m, row, V, ents, clock, g, hD⟩ := h
  rcases g.find id with ⟨j, b, e, hf, hb, hi, hj, hx, hg⟩ | ⟨hf, hb, hg⟩
  · rw [hg] at hnew; cases hnew
  have hlen : es.length = row.length := by rw [g.eq_.length_eq, List.length_map]
  have hpalt := g.blk.lt
  have c1 : w.cell? ⟨pa, 1, none⟩ = some (.map (some m)) := (g.blk.cell 1).trans rfl
  have c2 : w.cell? ⟨pa, 2, none⟩ = some (.int .i64 turns) := (g.blk.cell 2).trans rfl
  have f2 := g.blk.frozen 2
  obtain ⟨hmpa, hmr⟩ := g.map_out
  -- the worlds on the way
  have F1 : Fr (fun b => b = pa) w (w.setCell ⟨pa, 2, none⟩ (.int .i64 (turns + 1))) := (Fr.refl (fun b => b = pa) w).setCell (p := ⟨pa, 2, none⟩) (.inl rfl) _
  have m1 := F1.obj g.mp hmpa
  have hlk := run_lookup_miss undAgMap undInt zeroPE (w.setCell ⟨pa, 2, none⟩ (.int .i64 (turns + 1))) m1 (.int .i64 id) hf
  have F2 := F1.alloc (.cells #[.int .i64 id, .int .i64 at_, .int .i64 (turns + 1), .int .i64 0] 213)
  have m2 := F2.obj g.mp hmpa
  have hup := run_mapUpdate_new (v := ptr w.heap.size) undAgMap undInt _ m2 (.int .i64 id) hf
  -- what the push is handed
  obtain ⟨V', hV'⟩ : ∃ V' : Nat → Ent, V' = fun b => if b = w.heap.size then ⟨id, at_, turns + 1⟩ else V b := ⟨_, rfl⟩
  have hVe : V' w.heap.size = ⟨id, at_, turns + 1⟩ := by rw [hV']; simp
  have hrow : ∀ b ∈ row, b < w.heap.size := fun b hb => g.lt (.inr (.inr (.inr hb)))
  have hVr : ∀ b ∈ row, V' b = V b := fun b hb => by have := hrow b hb; rw [hV']; simp; intro e; omega
  obtain ⟨w3, hw3⟩ : ∃ w3, setMap ((w.setCell ⟨pa, 2, none⟩ (.int .i64 (turns + 1))).alloc (.cells #[.int .i64 id, .int .i64 at_, .int .i64 (turns + 1), .int .i64 0] 213)) m
      (ents.push { key := .int .i64 id, val := ptr w.heap.size, born := clock }) (clock + 1) = w3 := ⟨_, rfl⟩
  rw [hw3] at hup
  have F3 : Fr (fun b => b = pa ∨ b = m) w w3 := by rw [← hw3]; exact (F2.mono fun _ _ h => .inl h).setMap (.inl (.inr rfl)) _ _
  have m3 : w3.heap[m]? = some (.map (ents.push { key := .int .i64 id, val := ptr w.heap.size, born := clock }) (clock + 1)) := by rw [← hw3]; exact setMap_at m2
  have A3 : AgRow w3 v row V' := by
    refine AgRow.congr ⟨ownsRow_fr g.rw_.own F3 fun b hb => ?_, fun k hk => (g.rw_.ent k hk).fr F3 ?_, g.rw_.nodup⟩ hVr
    · rintro (rfl | rfl)
      · exact g.rw_.out g.blk (.inl hb)
      · exact hmr (.inl hb)
    · rintro (hq | hq)
      · exact g.rw_.out g.blk (.inr (hq ▸ nth_mem row k hk))
      · exact hmr (.inr (hq ▸ nth_mem row k hk))
  have B1 : Blk (w.setCell ⟨pa, 2, none⟩ (.int .i64 (turns + 1))) pa #[v, .map (some m), .int .i64 (turns + 1)] 211 := by
    have := g.blk.setCell 2 (.int .i64 (turns + 1))
    simpa using this
  have FM : ∀ W es' clock', Fr (fun b => b = m) W (setMap W m es' clock') := fun W es' clock' => (Fr.refl (fun b => b = m) W).setMap (.inl rfl) es' clock'
  have B3 : Blk w3 pa #[v, .map (some m), .int .i64 (turns + 1)] 211 := by
    rw [← hw3]
    exact (B1.alloc _).fr (FM _ _ _) (Ne.symm hmpa)
  have E3 : Blk w3 w.heap.size #[.int .i64 (V' w.heap.size).id, .int .i64 (V' w.heap.size).at_, .int .i64 (V' w.heap.size).turn, .int .i64 0] 213 := by
    rw [← hw3, hVe]
    have h1 := Blk.new (w.setCell ⟨pa, 2, none⟩ (.int .i64 (turns + 1))) #[.int .i64 id, .int .i64 at_, .int .i64 (turns + 1), .int .i64 0] 213
    rw [World.size_setCell] at h1
    have := g.lt (.inr (.inl rfl))
    exact h1.fr (FM _ _ _) (by omega)
  have hne : w.heap.size ∉ row := fun hq => by have := hrow _ hq; omega
  have HA := hid A3
  have HB := hid B3
  have HE := hid E3
  have HH := hid (g.heap.congr (Nat.le_refl _) hVr)
  have HG := hid g
  have HF3 := hid F3
  have HM3 := hid m3
  have HVr := hid hVr
  have HVe := hid hVe
  have HB0 := hid hb
  have HD := hid hD
  have HL := hid hlen
  have HMO := hid (show m ≠ pa ∧ ¬ RowFp v row m from ⟨hmpa, hmr⟩)
  have hrl : row.length ≤ 65000 := by omega
  clear g hD hf hb hg hlen hnew hl m1 m2 F1 F2 F3 m3 A3 B1 FM B3 E3 hw3 hV' hVe hVr hrow hmpa hmr
  go_enter Tryz.func72, Tryz.ntmps72
  go_wp2_with (first
    | (go_at_call 159; refine (heapPush_any pa w.heap.size v (.int .i64 0) row V' #[v, .map (some m), .int .i64 (turns + 1)] w3 HA.out HH.out HB.out rfl HE.out hne hrl).mono ?_; rintro r w4 ⟨rfl, v', row', hP⟩))
  go_end0
  have hg := HG.out
  have hm := HMO.out
  have hml := hg.lt (.inr (.inl rfl))
  have hVm : row.map (entOf V') = row.map (entOf V) := List.map_congr_left fun b hb => by unfold entOf; rw [HVr.out b hb]
  have hVi : row.map (fun b => (V' b).id) = row.map (fun b => (V b).id) := List.map_congr_left fun b hb => by rw [HVr.out b hb]
  have hVV : row.map V' = row.map V := List.map_congr_left fun b hb => HVr.out b hb
  have hturn : ∀ f ∈ es, f.turn < (turns : Int) + 1 := fun f hf => by have := hg.turn f hf; omega
  refine ⟨rfl, AgFp pa v' m row', ⟨v', m, row', V', _, clock + 1, ⟨?_, hP.at_, hP.heap, hP.fr.obj HM3.out ?_, ?_, ?_, ?_, ?_, ?_, ?_⟩, fun _ => Iff.rfl⟩, ?_, ?_⟩
  · have := hP.blk
    simpa using this
  · rintro (h | h | h)
    · exact hm.1 h
    · exact hm.2 (.inl h)
    · rcases List.mem_append.1 h with h | h
      · exact hm.2 (.inr h)
      · simp at h; omega
  · intro e he
    simp at he
    rcases he with he | rfl
    · exact hg.keys e (by simpa using he)
    · exact .int .i64 id
  · refine List.Perm.trans ?_ (hP.perm.map (entOf V')).symm
    rw [List.map_append, hVm, Array.toList_push, List.map_append]
    refine hg.perm.append ?_
    simp [entOf, HVe.out]
  · refine (hP.perm.map fun b => (V' b).id).nodup_iff.2 ?_
    rw [List.map_append, hVi, List.nodup_append]
    refine ⟨hg.ids, by simp, ?_⟩
    rintro x hx y hy rfl
    simp [HVe.out] at hy
    obtain ⟨b, hb, e⟩ := List.mem_map.1 hx
    exact HB0.out b hb (e.trans hy)
  · refine (insE_perm _ _).trans (List.Perm.trans ?_ (hP.perm.map V').symm)
    rw [List.map_append, hVV]
    simp only [List.map_cons, List.map_nil, HVe.out]
    exact ((hg.eq_.cons _).trans (List.perm_append_comm (l₁ := [_])))
  · exact insE_sorted hg.sorted hturn
  · intro f hf
    rcases List.mem_cons.1 ((insE_perm _ _).mem_iff.1 hf) with rfl | hf
    · simp
    · have := hturn f hf
      simp; omega
  · refine (HF3.out.mono ?_).trans' hP.fr ?_
    · rintro b _ (h | h)
      · exact (HD.out b).2 (.inl h)
      · exact (HD.out b).2 (.inr (.inl h))
    · rintro b hb (h | h | h)
      · exact (HD.out b).2 (.inl h)
      · exact (HD.out b).2 (.inr (.inr (.inl h)))
      · rcases List.mem_append.1 h with h | h
        · exact (HD.out b).2 (.inr (.inr (.inr h)))
        · simp at h; omega
  · rintro b (h | h | h | h)
    · exact .inl ((HD.out b).2 (.inl h))
    · exact .inl ((HD.out b).2 (.inr (.inl h)))
    · rcases hP.own b h.symm with (h | h | h) | h
      · exact .inl ((HD.out b).2 (.inl h))
      · exact .inl ((HD.out b).2 (.inr (.inr (.inl h))))
      · rcases List.mem_append.1 h with h | h
        · exact .inl ((HD.out b).2 (.inr (.inr (.inr h))))
        · simp at h; exact .inr (by omega)
      · exact .inr (Nat.le_trans HF3.out.size h)
    · rcases List.mem_append.1 (hP.perm.mem_iff.1 h) with h | h
      · exact .inl ((HD.out b).2 (.inr (.inr (.inr h))))
      · simp at h; exact .inr (by omega)
end Go.Proofs.YtnippamifihdpaaGreatDoor
namespace Go.Proofs.YtnippamifihdpaaGreatDoor
open Go Go.RowKit

/-- Entries less one id. -/
def dropE (es : List Ent) (id : Int) : List Ent := es.filter fun e => decide (e.id ≠ id)

set_option maxRecDepth 100000 in
set_option maxHeartbeats 8000000 in
theorem agDrop_miss (pa : Nat) (es : List Ent) (turns : Nat) (D : Nat → Prop) (id : Int) (w : World) (h : Ag w pa es turns D) (hn : getE es id = none) :
    Calls Tryz.prog 75 #[ptr pa, .int .i64 id] w fun r w' => r = .returned (.bool false) ∧ w = w' := by
  obtain ⟨v, m, row, V, ents, clock, g, hD⟩ := h
  have c1 : w.cell? ⟨pa, 1, none⟩ = some (.map (some m)) := (g.blk.cell 1).trans rfl
  rcases g.find id with ⟨j, b, e, hf, hb, hi, hj, hx, hg⟩ | ⟨hf, hb, hg⟩
  · rw [hg] at hn; cases hn
  · have hlk := run_lookup_miss undAgMap undInt zeroPE w g.mp (.int .i64 id) hf
    clear g hD hf hb hg hn
    go_enter Tryz.func75, Tryz.ntmps75
    go_wp2_with fail
    go_ret
    exact ⟨rfl, rfl⟩

set_option maxRecDepth 100000 in
set_option maxHeartbeats 8000000 in
theorem agDrop_hit (pa : Nat) (es : List Ent) (turns : Nat) (D : Nat → Prop) (id : Int) (x : Ent) (w : World) (h : Ag w pa es turns D) (hn : getE es id = some x) (hl : es.length ≤ 60000) :
    Calls Tryz.prog 75 #[ptr pa, .int .i64 id] w fun r w' => r = .returned (.bool true) ∧
      ∃ D', Ag w' pa (dropE es id) turns D' ∧ Fr D w w' ∧ ∀ b, D' b → D b ∨ w.heap.size ≤ b := by
  obtain ⟨v, m, row, V, ents, clock, g, hD⟩ := h
  rcases (g.find id).symm with ⟨hf, hb, hg⟩ | ⟨j, b, e, hf, hb, hi, hj, hx, hg⟩
  · rw [hg] at hn; cases hn
  have c1 : w.cell? ⟨pa, 1, none⟩ = some (.map (some m)) := (g.blk.cell 1).trans rfl
  have hv : e.val = ptr b := congrArg Prod.snd hx
  have hlk := run_lookup_hit undAgMap undInt w g.mp (.int .i64 id) j e (by rw [hf, hv])
  rw [hv] at hlk
  obtain ⟨k, hk, hkb, hc⟩ := g.rw_.mem_type hb
  have cb : w.cell? ⟨b, 3, none⟩ = some (.int .i64 k) := (hc.cell 3).trans rfl
  have hlen : es.length = row.length := by rw [g.eq_.length_eq, List.length_map]
  obtain ⟨n, hrn⟩ : ∃ n, row.length = n + 1 := ⟨row.length - 1, by omega⟩
  have hkn : k ≤ n := by omega
  have hrl : row.length ≤ 65000 := by omega
  have HG := hid g
  have HN := hid hrn
  have HK := hid hkb
  have HX := hid hx
  have HD := hid hD
  have HF := hid hf
  have HJ := hid hj
  have HI := hid hi
  have HG2 := hid (g.fr (w' := w.drew) (Fr.refl (fun _ => False) w).drew fun _ _ hq => hq)
  clear g hD hf hj hx hg hn hv hc hrn hkb hi hlen hk hl
  go_enter Tryz.func75, Tryz.ntmps75
  go_wp2_with fail
  go_region_with (go_at_call 161; refine (heapRemove_any pa k n v row V #[v, .map (some m), .int .i64 turns] _ HG2.out.rw_ HG2.out.heap HG2.out.blk rfl HN.out hkn hrl).mono ?_; rintro r w2 ⟨rfl, v', row', hP⟩)
  have hg := HG.out
  have hmo := hg.map_out
  have hm2 : w2.heap[m]? = some (.map ents clock) := hP.fr.of_drew.obj hg.mp (by rintro (h | h); exact hmo.1 h; exact hmo.2 h)
  have c1' : w2.cell? ⟨pa, 1, none⟩ = some (.map (some m)) := (hP.blk.cell 1).trans (by simp)
  have hdel := fun ty => run_delete_hit (ty := ty) (K2 := 3) undAgMap undInt w2 hm2 (.int .i64 id) HF.out
  have HP := hid hP
  have HM2 := hid hm2
  clear hP hg hmo hm2 c1 cb hlk
  go_wp2_with fail
  go_ret
  have hg := HG.out
  have hP := HP.out
  have hmo := hg.map_out
  have hml := hg.lt (.inr (.inl rfl))
  rw [HK.out] at hP
  have FM : Fr (fun q => q = m) w2 (setMap w2 m (ents.eraseIdxIfInBounds j) clock) := (Fr.refl (fun q => q = m) w2).setMap (.inl rfl) _ _
  have hrow' : ∀ q, q ∈ row' → q ∈ row := fun q hq => List.mem_of_mem_erase (hP.perm.mem_iff.1 hq)
  have hown' : ∀ q, some q = v'.ownBlock → (q = pa ∨ RowFp v row q) ∨ w.heap.size ≤ q := fun q hq => hP.own q hq.symm
  have hout' : ¬ RowFp v' row' m := by
    rintro (h | h)
    · rcases hown' m h with (h | h) | h
      · exact hmo.1 h
      · exact hmo.2 h
      · omega
    · exact hmo.2 (.inr (hrow' m h))
  have hpb : row.Perm (b :: row.erase b) := List.perm_cons_erase hb
  have hjl : j < ents.size := by
    have := (List.getElem?_eq_some_iff.1 HJ.out).1
    simpa using this
  have hej : ents.toList = ents.toList.take j ++ e :: ents.toList.drop (j + 1) := by
    have h1 := List.take_append_drop j ents.toList
    rw [List.drop_eq_getElem_cons (by simpa using hjl)] at h1
    have h2 := HJ.out
    rw [List.getElem?_eq_getElem (by simpa using hjl)] at h2
    injection h2 with h2
    rw [h2] at h1
    exact h1.symm
  have her : (ents.eraseIdxIfInBounds j).toList = ents.toList.eraseIdx j := by
    simp [Array.eraseIdxIfInBounds, hjl]
  have hsub : List.Sublist (row.erase b) row := List.erase_sublist
  have hids : ((row.erase b).map fun q => (V q).id).Nodup := (hsub.map _).nodup hg.ids
  have hidb : ∀ q ∈ row.erase b, (V q).id ≠ id := by
    intro q hq hqi
    have h1 := (hpb.map fun q => (V q).id).nodup_iff.1 hg.ids
    rw [List.map_cons, List.nodup_cons] at h1
    exact h1.1 (List.mem_map.2 ⟨q, hq, hqi.trans HI.out.symm⟩)
  refine ⟨rfl, AgFp pa v' m row', ⟨v', m, row', V, ents.eraseIdxIfInBounds j, clock, ⟨?_, ?_, hP.heap, setMap_at HM2.out, ?_, ?_, ?_, ?_, ?_, ?_⟩, fun _ => Iff.rfl⟩, ?_, ?_⟩
  · have := hP.blk.fr FM (Ne.symm hmo.1)
    simpa using this
  · exact ⟨ownsRow_fr hP.at_.own FM fun q hq he => hout' (.inl (he ▸ hq)), fun i hi => (hP.at_.ent i hi).fr FM (fun he => hout' (.inr (he ▸ nth_mem row' i hi))), hP.at_.nodup⟩
  · intro q hq
    rw [her] at hq
    exact hg.keys q (List.mem_of_mem_eraseIdx hq)
  · rw [her]
    refine List.Perm.trans ?_ (hP.perm.map (entOf V)).symm
    have h1 := hg.perm.trans (hpb.map (entOf V))
    rw [List.map_cons, hej, List.map_append, List.map_cons, ← HX.out] at h1
    have h2 := (List.perm_middle.symm.trans h1).cons_inv
    rw [List.eraseIdx_eq_take_drop_succ, List.map_append]
    exact h2
  · exact (hP.perm.map fun q => (V q).id).nodup_iff.2 hids
  · refine List.Perm.trans ?_ (hP.perm.map V).symm
    have h1 := (hg.eq_.trans (hpb.map V)).filter fun e => decide (e.id ≠ id)
    rw [List.map_cons, List.filter_cons] at h1
    have h2 : decide ((V b).id ≠ id) = false := by simp [HI.out]
    rw [h2] at h1
    have h3 : ((row.erase b).map V).filter (fun e => decide (e.id ≠ id)) = (row.erase b).map V := by
      rw [List.filter_eq_self]
      intro x hx
      obtain ⟨q, hq, rfl⟩ := List.mem_map.1 hx
      simpa using hidb q hq
    rw [h3] at h1
    exact h1
  · exact hg.sorted.filter _
  · intro x hx
    exact hg.turn x (List.mem_filter.1 hx).1
  · refine (hP.fr.of_drew.mono ?_).trans' FM ?_
    · rintro q _ (h | h)
      · exact (HD.out q).2 (.inl h)
      · exact (HD.out q).2 (.inr (.inr h))
    · rintro q _ h
      exact (HD.out q).2 (.inr (.inl h))
  · rintro q (h | h | h | h)
    · exact .inl ((HD.out q).2 (.inl h))
    · exact .inl ((HD.out q).2 (.inr (.inl h)))
    · rcases hown' q h with (h | h) | h
      · exact .inl ((HD.out q).2 (.inl h))
      · exact .inl ((HD.out q).2 (.inr (.inr h)))
      · exact .inr h
    · exact .inl ((HD.out q).2 (.inr (.inr (.inr (hrow' q h)))))
end Go.Proofs.YtnippamifihdpaaGreatDoor
namespace Go.Proofs.YtnippamifihdpaaGreatDoor
open Go Go.RowKit

/-- No block of an agenda is a row of ints. -/
theorem Ag.no_int {w : World} {pa : Nat} {es : List Ent} {turns : Nat} {D : Nat → Prop} (h : Ag w pa es turns D) {b : Nat} {cs : Array Value} (hb : Blk w b cs 3) : ¬ D b := by
  obtain ⟨v, m, row, V, ents, clock, g, hD⟩ := h
  rw [hD]
  rintro (rfl | rfl | hq | hq)
  · exact absurd (hb.uniq g.blk).2 (by decide)
  · exact hb.ne_map g.mp rfl
  · obtain ⟨cur, hc⟩ := g.rw_.own_type hq; exact absurd (hb.uniq hc).2 (by decide)
  · obtain ⟨k, _, _, hc⟩ := g.rw_.mem_type hq; exact absurd (hb.uniq hc).2 (by decide)
theorem ownsRow_type {w : World} {base e size n : Nat} {v : Value} {xs : List Value} (h : w.ownsRow base e size v n xs) {b : Nat} (hb : some b = v.ownBlock) : ∃ cur, Blk w b cur e := by
  rcases h.2 with ⟨rfl, _⟩ | ⟨g, cap, cur, rfl, _, hg, _⟩
  · cases hb
  · injection hb with hb; subst hb; exact ⟨cur, hg⟩
theorem Ag.nodup {w : World} {pa : Nat} {es : List Ent} {turns : Nat} {D : Nat → Prop} (h : Ag w pa es turns D) : (es.map (·.id)).Nodup := by
  obtain ⟨v, m, row, V, ents, clock, g, hD⟩ := h
  exact g.nodupE
theorem Ag.sorted {w : World} {pa : Nat} {es : List Ent} {turns : Nat} {D : Nat → Prop} (h : Ag w pa es turns D) : es.Pairwise Ent.lt := by
  obtain ⟨v, m, row, V, ents, clock, g, hD⟩ := h
  exact g.sorted
theorem dropE_head {e : Ent} {l : List Ent} (h : ((e :: l).map (·.id)).Nodup) : dropE (e :: l) e.id = l := by
  rw [List.map_cons, List.nodup_cons] at h
  unfold dropE
  rw [List.filter_cons]
  simp only [ne_eq, not_true_eq_false, decide_false, Bool.false_eq_true, if_false]
  rw [List.filter_eq_self]
  intro x hx
  simp
  intro hq
  exact h.1 (List.mem_map.2 ⟨x, hx, hq⟩)
theorem getE_head (e : Ent) (l : List Ent) : getE (e :: l) e.id = some e := by simp [getE]

def lenV : Value → Nat | .slice _ n _ => n | _ => 0

theorem infoInt : (Tryz.prog.info? 3).map (fun i => (i.zero, i.size, i.bytes)) = some (some (.int .i64 0), 1, 8) := by kernel_rfl

theorem one_int (n : Int) : ∀ u ∈ [Value.int .i64 n], u.oneCell' = true := by simp [Value.oneCell']

/-- Between two rounds of Due: some entries are gone, those that were due. -/
def DueRel (w : World) (pa : Nat) (es : List Ent) (turns : Nat) (now : Int) (D : Nat → Prop) (l : Value) (wr : World) : Prop :=
  ∃ (ad : Option Addr) (c : Nat) (gone es' : List Ent) (D' : Nat → Prop), l = .slice ad gone.length c ∧ es = gone ++ es' ∧ (∀ e ∈ gone, e.at_ ≤ now) ∧ Ag wr pa es' turns D' ∧ Fr D w wr ∧ (∀ b, D' b → D b ∨ w.heap.size ≤ b) ∧
    wr.ownsRow w.heap.size 3 1 l gone.length (gone.map fun e => .int .i64 e.id)

/-- What Due leaves. -/
def DuePost (w : World) (pa : Nat) (es : List Ent) (turns : Nat) (now : Int) (D : Nat → Prop) (r : Ending) (wr : World) : Prop :=
  ∃ (ad : Option Addr) (c : Nat) (gone es' : List Ent) (D' : Nat → Prop), r = .returned (.slice ad gone.length c) ∧ es = gone ++ es' ∧ (∀ e ∈ gone, e.at_ ≤ now) ∧ (∀ e ∈ es', now < e.at_) ∧ Ag wr pa es' turns D' ∧ Fr D w wr ∧ (∀ b, D' b → D b ∨ w.heap.size ≤ b)

set_option maxRecDepth 100000 in
set_option maxHeartbeats 8000000 in
theorem agDue_any (pa : Nat) (es : List Ent) (turns : Nat) (now : Int) (D : Nat → Prop) (w : World) (h : Ag w pa es turns D) (hl : es.length ≤ 60000) :
    Calls Tryz.prog 73 #[ptr pa, .int .i64 now, .int .i64 es.length] w (DuePost w pa es turns now D) := by
  obtain ⟨i0, hi, hz0, hz1, hz2⟩ := info_parts infoInt
  have H0 : Hid (DueRel w pa es turns now D (.slice none 0 0) w) := hid ⟨none, 0, [], es, D, rfl, rfl, by simp, h, Fr.refl _ _, fun _ h => .inl h, World.ownsRow_nil _ _ _ _⟩
  clear h
  go_enter Tryz.func73, Tryz.ntmps73
  go_wp2_with fail
  go_loopw [7] (fun l wr => DueRel w pa es turns now D l wr) (fun l _ => es.length - lenV l)
  case atStart => exact H0.out
  case round =>
    clear H0
    obtain ⟨ad, c, gone, es', D', rfl, hes, hgone, hA, hF, hD', hown⟩ := hrel
    have hlen : es.length = gone.length + es'.length := by rw [hes, List.length_append]
    have HA := hid hA
    have HE := hid hes
    have HGN := hid hgone
    have HF := hid hF
    have HD := hid hD'
    have HO := hid hown
    cases es' with
    | nil =>
      have hge : ¬ (gone.length : Int) < (es.length : Int) := by simp at hlen; omega
      have hge2 : decide (gone.length < es.length) = false := by simp at hlen; simp; omega
      clear hlen hA hes hgone hF hD' hown
      go_wp2_with fail
      go_ret
      exact ⟨ad, c, gone, [], D', rfl, HE.out, HGN.out, by simp, HA.out, HF.out, HD.out⟩
    | cons e rest =>
      have hlt : (gone.length : Int) < (es.length : Int) := by simp at hlen; omega
      have hlt2 : decide (gone.length < es.length) = true := by simp at hlen; simp; omega
      have hg16 : gone.length ≤ 60000 := by omega
      have hr16 : (e :: rest).length ≤ 60000 := by omega
      have HL := hid hlen
      clear hlen hA hes hgone hF hD' hown
      by_cases hat : now < e.at_
      · go_wp2_with (first
          | (go_at_call 160; refine (agFirst_any pa (e :: rest) turns D' wr HA.out).mono ?_; rintro r w1 ⟨rfl, q, rfl⟩; dsimp only [firstV]))
        go_ret
        have hs := HA.out.sorted
        rw [List.pairwise_cons] at hs
        refine ⟨ad, c, gone, e :: rest, D', rfl, HE.out, HGN.out, ?_, HA.out.fr (S := fun _ => False) ((Fr.refl _ wr).drewN q) (fun _ _ hq => hq), HF.out.drewN q, HD.out⟩
        intro f hf
        rcases List.mem_cons.1 hf with rfl | hf
        · exact hat
        · have := hs.1 f hf
          unfold Ent.lt at this
          omega
      · have hle : e.at_ ≤ now := by omega
        have hatn : decide (now < e.at_) = false := by simp; omega
        have hmx : gone.length + 1 ≤ maxLen := by unfold maxLen; omega
        have HMX := hid hmx
        have H47 : Hid ((gone.length + 1) * 8 ≤ 140737488355328) := hid (by omega)
        have hdh := dropE_head HA.out.nodup
        have HDH := hid hdh
        have HLE := hid hle
        clear hmx hdh hat hle
        go_wp2_with (first
          | (go_at_call 160; refine (agFirst_any pa (e :: rest) turns D' wr HA.out).mono ?_; rintro r w1 ⟨rfl, q, rfl⟩; dsimp only [firstV])
          | (go_at_call 75; refine (agDrop_hit pa (e :: rest) turns D' e.id e (wr.drewN q) (HA.out.fr (S := fun _ => False) ((Fr.refl _ wr).drewN q) (fun _ _ hq => hq)) (getE_head e rest) hr16).mono ?_; rintro r w2 ⟨rfl, D2, hA2, hF2, hD2⟩; rw [HDH.out] at hA2; have HA2 := hid hA2; have HF2 := hid hF2; have HD2 := hid hD2; have HO2 : Hid (w2.ownsRow w.heap.size 3 1 (.slice ad gone.length c) gone.length (gone.map fun e => .int .i64 e.id)) := hid (ownsRow_fr HO.out hF2.of_drewN (fun b hb => (ownsRow_type HO.out hb).elim fun cur hc => HA.out.no_int hc)); have hws : w.heap.size ≤ w2.heap.size := Nat.le_trans HF.out.size hF2.of_drewN.size; clear hA2 hF2 hD2)
          | (at_builtin; refine wpList_append_lies _ rfl _ _ 132 rfl w.heap.size 3 i0 (.int .i64 0) 1 8 Tryz.underlying132 hi hz0 hz1 hz2 rfl (by decide) _ gone.length (gone.map fun e => .int .i64 e.id) rfl (ownsRow_ext HO2.out ((Ext.refl _).alloc _)) ⟨w2.heap.size, 0, none⟩ 1 1 [.int .i64 e.id] rfl rfl (one_new _ _ _ _ rfl) (one_int e.id) (by decide) HMX.out H47.out (by simp; omega) (w2.heap.size + 1) (by simp) ?_; intro g cap w3 hown3 hgrow hatt hltt; have HO3 := hid hown3; have HG3 := hid hgrow; clear hown3 hgrow hatt))
        go_roundw
        case rel =>
          have hg3 := Fr.of_grown HG3.out
          have e1 : (gone ++ [e]).length = gone.length + 1 := by simp
          have ho : ∀ b, some b = (Value.slice ad gone.length c).ownBlock → w.heap.size ≤ b := by
            intro b hb
            exact (World.ownsRow.lt HO.out b hb.symm).1
          refine ⟨some ⟨g, 0, none⟩, cap, gone ++ [e], rest, D2, by rw [e1], by rw [HE.out]; simp, ?_, ?_, ?_, ?_, ?_⟩
          · intro f hf
            rcases List.mem_append.1 hf with hf | hf
            · exact HGN.out f hf
            · simp at hf; subst hf; exact HLE.out
          · refine HA2.out.fr hg3.of_alloc ?_
            intro b hb hq
            obtain ⟨cur, hc⟩ := ownsRow_type HO2.out hq
            exact HA2.out.no_int hc hb
          · refine (HF.out.trans' HF2.out.of_drewN ?_).trans' hg3.of_alloc ?_
            · intro b hb hd
              rcases HD.out b hd with h | h
              · exact h
              · omega
            · intro b hb hq
              have := ho b hq
              omega
          · intro b hb
            rcases HD2.out b hb with h | h
            · exact HD.out b h
            · exact .inr (Nat.le_trans HF.out.size h)
          · rw [e1]
            have := HO3.out
            rw [List.map_append]
            exact this
        case measure =>
          have := HL.out
          simp [lenV]
          simp at this
          omega
end Go.Proofs.YtnippamifihdpaaGreatDoor
