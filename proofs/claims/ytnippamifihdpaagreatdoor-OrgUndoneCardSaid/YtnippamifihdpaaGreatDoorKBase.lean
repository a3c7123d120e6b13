/- Worlds that differ in some blocks alone: the frame of every contract of this seat. Maps whose keys are ints or strings: look-up, a new key, a key that goes. -/
import Derived.Test.YtnippamifihdpaaGreatDoorProg
import Derived.WalkKit
import Derived.WalkLawsBesides
import Derived.WalkSpells
namespace Go.Proofs.YtnippamifihdpaaGreatDoor
open Go Go.RowKit

/-- A fact kept from the walk. -/
theorem hid {p : Prop} (h : p) : Hid p := h

theorem ret_int {k : IntKind} {a b : Int} (h : a = b) : Ending.returned (.int k a) = .returned (.int k b) := by rw [h]
theorem ret_bool {a b : Bool} (h : a = b) : Ending.returned (.bool a) = .returned (.bool b) := by rw [h]

/-- A pointer to a block's first cell. -/
abbrev ptr (b : Nat) : Value := .pointer (some ⟨b, 0, none⟩)

/-- w' is w but for the blocks of S and new ones. -/
structure Fr (S : Nat → Prop) (w w' : World) : Prop where
  os : w'.os = w.os
  tape : w'.tape = w.tape
  output : w'.output = w.output
  size : w.heap.size ≤ w'.heap.size
  block : ∀ k, k < w.heap.size → ¬ S k → w'.heap[k]? = w.heap[k]?

/-- Nothing that was there has turned. -/
abbrev Ext (w w' : World) : Prop := Fr (fun _ => False) w w'

namespace Fr
variable {S S1 : Nat → Prop} {w w1 w2 : World}
theorem refl (S : Nat → Prop) (w : World) : Fr S w w := ⟨rfl, rfl, rfl, Nat.le_refl _, fun _ _ _ => rfl⟩
theorem trans' (h : Fr S w w1) (k : Fr S1 w1 w2) (hs : ∀ b, b < w.heap.size → S1 b → S b) : Fr S w w2 :=
  ⟨k.os.trans h.os, k.tape.trans h.tape, k.output.trans h.output, Nat.le_trans h.size k.size,
    fun b hb hn => (k.block b (Nat.lt_of_lt_of_le hb h.size) (fun e => hn (hs b hb e))).trans (h.block b hb hn)⟩
theorem trans (h : Fr S w w1) (k : Fr S w1 w2) : Fr S w w2 := h.trans' k fun _ _ e => e
theorem ext (h : Fr S w w1) (k : Ext w1 w2) : Fr S w w2 := h.trans' k fun _ _ e => e.elim
theorem mono (h : Fr S w w1) (hs : ∀ b, b < w.heap.size → S b → S1 b) : Fr S1 w w1 :=
  ⟨h.os, h.tape, h.output, h.size, fun b hb hn => h.block b hb fun e => hn (hs b hb e)⟩
theorem drew (h : Fr S w w1) : Fr S w w1.drew := h.trans ⟨rfl, rfl, rfl, Nat.le_refl _, fun _ _ _ => rfl⟩
theorem drewN (h : Fr S w w1) (n : Nat) : Fr S w (w1.drewN n) := h.trans ⟨rfl, rfl, rfl, Nat.le_refl _, fun _ _ _ => rfl⟩
theorem alloc (h : Fr S w w1) (o : Obj) : Fr S w (w1.alloc o) :=
  h.trans ⟨rfl, rfl, rfl, by simp, fun k hk _ => Below.heap_alloc _ _ _ hk⟩
theorem setCell (h : Fr S w w1) {p : Addr} (hp : S p.block ∨ w.heap.size ≤ p.block) (u : Value) : Fr S w (w1.setCell p u) :=
  h.trans' (S1 := fun b => b = p.block) ⟨rfl, rfl, rfl, by simp, fun k _ hn => Below.heap_setCell _ _ _ _ hn⟩
    fun b hb e => by subst e; rcases hp with hp | hp; exact hp; omega
theorem of_below {B : Nat} (h : Below B w w1) (hs : ∀ b, b < w.heap.size → B ≤ b → S b) : Fr S w w1 :=
  ⟨h.os, h.tape, h.output, h.size, fun b hb hn => h.block b (by
    rcases Nat.lt_or_ge b B with h' | h'
    · exact h'
    · exact (hn (hs b hb h')).elim)⟩
theorem below {B : Nat} (h : Fr S w w1) (hB : ∀ b, b < B → ¬ S b) (hsz : B ≤ w.heap.size) : Below B w w1 :=
  ⟨h.os, h.tape, h.output, h.size, fun b hb => h.block b (by omega) (hB b hb)⟩
theorem of_grown {row : Option Nat} (h : w.grownBy w1 row) : Fr (fun b => some b = row) w w1 :=
  ⟨h.os, h.tape, h.output, h.size, fun b hb hn => h.block b hb hn⟩
theorem cell (h : Fr S w w1) {a : Addr} (hl : a.block < w.heap.size) (hn : ¬ S a.block) : w1.cell? a = w.cell? a :=
  World.cell?_of_block (h.block _ hl hn)
theorem frozen (h : Fr S w w1) {a : Addr} (hl : a.block < w.heap.size) (hn : ¬ S a.block) : w1.frozen? a = w.frozen? a :=
  World.frozen?_of_block (h.block _ hl hn)
theorem obj (h : Fr S w w1) {b : Nat} {o : Obj} (hb : w.heap[b]? = some o) (hn : ¬ S b) : w1.heap[b]? = some o :=
  (h.block b (Array.getElem?_eq_some_iff.1 hb).1 hn).trans hb
theorem setObj (h : Fr S w w1) {r : Nat} (hp : S r ∨ w.heap.size ≤ r) (o : Obj) : Fr S w { w1 with heap := w1.heap.setIfInBounds r o } :=
  h.trans' (S1 := fun b => b = r) ⟨rfl, rfl, rfl, by simp, fun k _ hn => by simp [Ne.symm hn]⟩
    fun b hb e => by subst e; rcases hp with hp | hp; exact hp; omega
theorem of_drew (h : Fr S w.drew w1) : Fr S w w1 := ⟨h.os, h.tape, h.output, h.size, h.block⟩
theorem of_drewN {n : Nat} (h : Fr S (w.drewN n) w1) : Fr S w w1 := ⟨h.os, h.tape, h.output, h.size, h.block⟩
theorem of_alloc {o : Obj} (h : Fr S (w.alloc o) w1) : Fr S w w1 := ((refl S w).alloc o).trans h
end Fr
theorem Ext.refl (w : World) : Ext w w := Fr.refl _ w
theorem Ext.of_below {w w1 : World} (h : Below w.heap.size w w1) : Ext w w1 := Fr.of_below h fun b hb hc => by omega
theorem Ext.below {w w1 : World} (h : Ext w w1) : Below w.heap.size w w1 := Fr.below h (fun _ _ => id) (Nat.le_refl _)
theorem Ext.obj {w w1 : World} (h : Ext w w1) {b : Nat} {o : Obj} (hb : w.heap[b]? = some o) : w1.heap[b]? = some o := Fr.obj h hb id
/-- All that was there reads as it did. -/
theorem Ext.cells {w w1 : World} (h : Ext w w1) :
    (∀ b o, b < w.heap.size → w1.cell? ⟨b, o, none⟩ = w.cell? ⟨b, o, none⟩) ∧ (∀ b o, b < w.heap.size → w1.frozen? ⟨b, o, none⟩ = w.frozen? ⟨b, o, none⟩) :=
  ⟨fun _ _ hb => Fr.cell h hb id, fun _ _ hb => Fr.frozen h hb id⟩

/-- A block of cells: what its cells hold, and that it may be written. -/
def Blk (w : World) (b : Nat) (cs : Array Value) (t : TypeId) : Prop := w.heap[b]? = some (.cells cs t (0, 0))
theorem Blk.lt {w : World} {b : Nat} {cs : Array Value} {t : TypeId} (h : Blk w b cs t) : b < w.heap.size := (Array.getElem?_eq_some_iff.1 h).1
theorem Blk.cell {w : World} {b : Nat} {cs : Array Value} {t : TypeId} (h : Blk w b cs t) (o : Nat) : w.cell? ⟨b, o, none⟩ = cs[o]? := by
  simp [World.cell?, show w.heap[b]? = _ from h]
theorem Blk.frozen {w : World} {b : Nat} {cs : Array Value} {t : TypeId} (h : Blk w b cs t) (o : Nat) : w.frozen? ⟨b, o, none⟩ = false := by
  simp [World.frozen?, show w.heap[b]? = _ from h]
theorem Blk.fr {S : Nat → Prop} {w w1 : World} {b : Nat} {cs : Array Value} {t : TypeId} (h : Blk w b cs t) (k : Fr S w w1) (hn : ¬ S b) : Blk w1 b cs t := k.obj h hn
theorem Blk.ext {w w1 : World} {b : Nat} {cs : Array Value} {t : TypeId} (h : Blk w b cs t) (k : Ext w w1) : Blk w1 b cs t := Ext.obj k h
theorem Blk.setCell {w : World} {b : Nat} {cs : Array Value} {t : TypeId} (h : Blk w b cs t) (o : Nat) (v : Value) : Blk (w.setCell ⟨b, o, none⟩ v) b (cs.setIfInBounds o v) t := by
  unfold Blk World.setCell
  simp [Array.getElem?_modify, show w.heap[b]? = _ from h]
theorem Blk.setCell_other {w : World} {b : Nat} {cs : Array Value} {t : TypeId} (h : Blk w b cs t) {p : Addr} (hp : b ≠ p.block) (v : Value) : Blk (w.setCell p v) b cs t := by
  unfold Blk
  rw [Below.heap_setCell _ _ _ _ hp]
  exact h
theorem Blk.alloc {w : World} {b : Nat} {cs : Array Value} {t : TypeId} (h : Blk w b cs t) (o : Obj) : Blk (w.alloc o) b cs t := h.ext ((Ext.refl w).alloc o)
theorem Blk.new (w : World) (cs : Array Value) (t : TypeId) : Blk (w.alloc (.cells cs t)) w.heap.size cs t := heap_alloc_new w _
theorem Blk.new_drew (w : World) (cs : Array Value) (t : TypeId) : Blk (w.alloc (.cells cs t)).drew w.heap.size cs t := heap_alloc_new w _
theorem Blk.new_drewN (w : World) (cs : Array Value) (t : TypeId) (n : Nat) : Blk ((w.alloc (.cells cs t)).drewN n) w.heap.size cs t := heap_alloc_new w _
theorem Blk.drew {w : World} {b : Nat} {cs : Array Value} {t : TypeId} (h : Blk w b cs t) : Blk w.drew b cs t := h
theorem Blk.drewN {w : World} {b : Nat} {cs : Array Value} {t : TypeId} (h : Blk w b cs t) (n : Nat) : Blk (w.drewN n) b cs t := h
theorem Blk.uniq {w : World} {b : Nat} {cs cs' : Array Value} {t t' : TypeId} (h : Blk w b cs t) (h' : Blk w b cs' t') : cs = cs' ∧ t = t' := by
  have := h.symm.trans h'
  simp at this
  exact this
/-- An owned row, where its own block has not turned. -/
theorem ownsRow_fr {S : Nat → Prop} {w w' : World} {base e size n : Nat} {v : Value} {xs : List Value} (h : w.ownsRow base e size v n xs) (k : Fr S w w')
    (hn : ∀ b, some b = v.ownBlock → ¬ S b) : w'.ownsRow base e size v n xs := by
  refine ⟨h.1, ?_⟩
  rcases h.2 with h2 | ⟨g, cap, cur, rfl, hb, hg, r⟩
  · exact .inl h2
  · exact .inr ⟨g, cap, cur, rfl, hb, k.obj hg (hn g rfl), r⟩
theorem ownsRow_ext {w w' : World} {base e size n : Nat} {v : Value} {xs : List Value} (h : w.ownsRow base e size v n xs) (k : Ext w w') : w'.ownsRow base e size v n xs :=
  ownsRow_fr h k fun _ _ => id
/-- A store into an owned row of one-celled elements. -/
theorem ownsRow_set {w : World} {base e g cap n : Nat} {xs : List Value} (h : w.ownsRow base e 1 (.slice (some ⟨g, 0, none⟩) n cap) n xs) (i : Nat) (u : Value) :
    (w.setCell ⟨g, i, none⟩ u).ownsRow base e 1 (.slice (some ⟨g, 0, none⟩) n cap) n (xs.set i u) := by
  refine ⟨by rw [List.length_set]; exact h.1, ?_⟩
  rcases h.2 with ⟨hv, _⟩ | ⟨g', cap', cur, hv, hb, hg, hc, hm, hs, ht⟩
  · cases hv
  · injection hv with h1 h2 h3
    injection h1 with h1
    injection h1 with h1
    subst h1 h3
    refine .inr ⟨_, _, cur.setIfInBounds i u, rfl, hb, Blk.setCell hg i u, hc, hm, by simpa using hs, ?_⟩
    rw [Array.toList_setIfInBounds, List.take_set, ht]
end Go.Proofs.YtnippamifihdpaaGreatDoor
namespace Go.Proofs.YtnippamifihdpaaGreatDoor
open Go Go.RowKit

/-- Keys of one plain kind. -/
inductive PlainKey : TypeDesc → Value → Prop where
  | int (k : IntKind) (n : Int) : PlainKey (.int k) (.int .i64 n)
  | str (s : ByteArray) : PlainKey .string (.string s)

theorem bytes_beq_iff (a b : ByteArray) : (a == b) = true ↔ a = b := by
  obtain ⟨a⟩ := a
  obtain ⟨b⟩ := b
  show (ByteArray.beq ⟨a⟩ ⟨b⟩) = true ↔ _
  unfold ByteArray.beq
  simp
theorem bytes_beq (a b : ByteArray) : (a == b) = decide (a = b) := by
  by_cases h : a = b
  · rw [(bytes_beq_iff a b).2 h]; simp [h]
  · have : (a == b) = false := by
      cases hq : (a == b)
      · rfl
      · exact (h ((bytes_beq_iff a b).1 hq)).elim
    rw [this]; simp [h]

/-- Held against a key of its own kind a key says yes just where it is that one. -/
theorem sameNow_plain {kd : TypeDesc} {k x : Value} (hk : PlainKey kd k) (hx : PlainKey kd x) : ∃ c, Instr.sameNow kd k x = some c ∧ (c = true ↔ x = k) := by
  cases hk with
  | int kk n =>
    cases hx with
    | int _ m => exact ⟨n == m, by simp [Instr.sameNow], by simp; exact eq_comm⟩
  | str s =>
    cases hx with
    | str t => exact ⟨s == t, by simp [Instr.sameNow], by rw [bytes_beq_iff]; simp; exact eq_comm⟩

/-- Where a key stands among entries, from place i on. -/
theorem findNow_plain {kd : TypeDesc} {k : Value} (hk : PlainKey kd k) (es : List MapEntry) : ∀ (i : Nat), (∀ e ∈ es, PlainKey kd e.key) →
    (Instr.findNow kd k es i = some none ∧ ∀ e ∈ es, e.key ≠ k) ∨ (∃ j e, Instr.findNow kd k es i = some (some (i + j, e.val)) ∧ es[j]? = some e ∧ e.key = k) := by
  induction es with
  | nil => intro i _; exact .inl ⟨rfl, by simp⟩
  | cons e es ih =>
    intro i h
    obtain ⟨c, hc, hiff⟩ := sameNow_plain hk (h e (by simp))
    cases c with
    | true => exact .inr ⟨0, e, by simp [Instr.findNow, hc], rfl, hiff.1 rfl⟩
    | false =>
      have hne : e.key ≠ k := fun hq => by have := hiff.2 hq; cases this
      rcases ih (i + 1) (fun x hx => h x (by simp [hx])) with ⟨h1, h2⟩ | ⟨j, x, h1, h2, h3⟩
      · exact .inl ⟨by simp [Instr.findNow, hc, h1], by simp [hne]; exact h2⟩
      · exact .inr ⟨j + 1, x, by simp [Instr.findNow, hc, h1]; omega, by simpa using h2, h3⟩

/-- A map's block written anew. -/
def setMap (w : World) (m : Nat) (es : Array MapEntry) (clock : Nat) : World := { w with heap := w.heap.setIfInBounds m (.map es clock) }
theorem Fr.setMap {S : Nat → Prop} {w w1 : World} (h : Fr S w w1) {m : Nat} (hp : S m ∨ w.heap.size ≤ m) (es : Array MapEntry) (clock : Nat) : Fr S w (Go.Proofs.YtnippamifihdpaaGreatDoor.setMap w1 m es clock) := h.setObj hp _
theorem setMap_at {w : World} {m clock clock' : Nat} {es es' : Array MapEntry} (h : w.heap[m]? = some (.map es clock)) : (setMap w m es' clock').heap[m]? = some (.map es' clock') := by
  have := (Array.getElem?_eq_some_iff.1 h).1
  simp [setMap, this]
theorem setMap_size (w : World) (m clock : Nat) (es : Array MapEntry) : (setMap w m es clock).heap.size = w.heap.size := by simp [setMap]

section
variable {P : Program} {T K E : TypeId} {kd : TypeDesc}

theorem run_checkKey_plain {k : Value} (hK : P.underlying K = some kd) (hk : PlainKey kd k) (b : Bool) (w : World) : (Instr.checkKey b 10000 K k).run P w = .ok () w := by
  rw [show (10000 : Nat) = 9999 + 1 from rfl]
  cases hk <;> (unfold Instr.checkKey; simp [run_underlying hK])

theorem run_findKey_plain {k : Value} (hK : P.underlying K = some kd) (es : List MapEntry) (r : Option (Nat × Value)) (h : Instr.findNow kd k es 0 = some r) (w : World) :
    (Instr.findKey K k es).run P w = .ok r w := by
  simp [Instr.findKey, run_underlying hK, h]

/-- v, ok := m[k] where the key is there. -/
theorem run_lookup_hit {m clock : Nat} {es : Array MapEntry} {k : Value} (hT : P.underlying T = some (.map K E)) (hK : P.underlying K = some kd) (w : World) (hm : w.heap[m]? = some (.map es clock))
    (hk : PlainKey kd k) (j : Nat) (e : MapEntry) (h : Instr.findNow kd k es.toList 0 = some (some (j, e.val))) :
    (Instr.lookup T (.map (some m)) k true).run P w = .ok (.tuple #[e.val, .bool true]) w := by
  simp [Instr.lookup, run_underlying hT, getObj, Sem.run, hm, run_checkKey_plain hK hk, run_findKey_plain hK _ _ h]

/-- .. and where it is not. -/
theorem run_lookup_miss {m clock : Nat} {es : Array MapEntry} {k z : Value} (hT : P.underlying T = some (.map K E)) (hK : P.underlying K = some kd) (hz : ∀ w, (zeroValue E).run P w = .ok z w) (w : World)
    (hm : w.heap[m]? = some (.map es clock)) (hk : PlainKey kd k) (h : Instr.findNow kd k es.toList 0 = some none) :
    (Instr.lookup T (.map (some m)) k true).run P w = .ok (.tuple #[z, .bool false]) w := by
  simp [Instr.lookup, run_underlying hT, getObj, Sem.run, hm, run_checkKey_plain hK hk, run_findKey_plain hK _ _ h, hz]

/-- m[k] = v, a new key. -/
theorem run_mapUpdate_new {m clock : Nat} {es : Array MapEntry} {k v : Value} (hT : P.underlying T = some (.map K E)) (hK : P.underlying K = some kd) (w : World)
    (hm : w.heap[m]? = some (.map es clock)) (hk : PlainKey kd k) (h : Instr.findNow kd k es.toList 0 = some none) :
    (Instr.mapUpdate T (.map (some m)) k v).run P w = .ok () (setMap w m (es.push { key := k, val := v, born := clock }) (clock + 1)) := by
  simp [setMap, Instr.mapUpdate, run_underlying hT, getObj, setObj, Sem.run, hm, run_checkKey_plain hK hk, run_findKey_plain hK _ _ h]

/-- delete(m, k), a key that is there. -/
theorem run_delete_hit {m clock j : Nat} {es : Array MapEntry} {k u : Value} {ty : TypeId} {K2 : TypeId} (hT : P.underlying T = some (.map K E)) (hK : P.underlying K = some kd) (w : World)
    (hm : w.heap[m]? = some (.map es clock)) (hk : PlainKey kd k) (h : Instr.findNow kd k es.toList 0 = some (some (j, u))) :
    (Builtin.delete_ #[T, K2] ty #[.map (some m), k]).run P w = .ok (.tuple #[]) (setMap w m (es.eraseIdxIfInBounds j) clock) := by
  simp [setMap, Builtin.delete_, run_underlying hT, getObj, setObj, Sem.run, hm, run_checkKey_plain hK hk, run_findKey_plain hK _ _ h]
end
end Go.Proofs.YtnippamifihdpaaGreatDoor
