/- agenda.All: the sort of the entries. agenda.All: what the sort leaves of a slice of entries. agenda.All: the iterator. -/
import Derived.Test.YtnippamifihdpaaGreatDoorKAg3
import Derived.Shelf.SlSortCmp.WholeK
import Derived.Shelf.Lay
import Derived.Ground.SlsfProg
import Derived.Shelf.SlSortCmp.NoneTotal
import Derived.Test.YtnippamifihdpaaGreatDoorKBits
import Derived.Handy
namespace Go.Proofs.YtnippamifihdpaaGreatDoor
open Go Go.RowKit Go.Shelf Go.Lib Go.Sort
def Tryz.sortFuncA_ren : Go.Shelf.Ren := ⟨fun | 6 => 163 | 15 => 226 | 14 => 225 | 28 => 256 | 29 => 257 | 20 => 248 | 21 => 249 | 22 => 250 | 23 => 251 | 24 => 252 | 25 => 253 | 26 => 254 | 27 => 255 | 46 => 280 | 47 => 281 | 48 => 282 | 49 => 283 | 50 => 284 | 57 => 297 | n => n, fun | 22 => 220 | 24 => 213 | 25 => 223 | 3 => 3 | 39 => 268 | 0 => 0 | 53 => 295 | 55 => 44 | 4 => 4 | 46 => 289 | 45 => 288 | 50 => 48 | 5 => 5 | 9 => 9 | 66 => 312 | 70 => 315 | 76 => 324 | 77 => 55 | n => n, fun | n => n⟩
theorem Tryz.sortFuncA : SlLaysF0.n6 Tryz.prog Tryz.sortFuncA_ren := {
  mixed := by kernel_rfl,
  f6 := ⟨Tryz.f163.name, by decide, Tryz.func163.trans (congrArg some (by kernel_rfl))⟩,
  f14 := ⟨Tryz.f225.name, by decide, Tryz.func225.trans (congrArg some (by kernel_rfl))⟩,
  f15 := Tryz.func226.trans (congrArg some (by kernel_rfl)),
  f20 := ⟨Tryz.f248.name, by decide, Tryz.func248.trans (congrArg some (by kernel_rfl))⟩,
  f21 := ⟨Tryz.f249.name, by decide, Tryz.func249.trans (congrArg some (by kernel_rfl))⟩,
  f22 := ⟨Tryz.f250.name, by decide, Tryz.func250.trans (congrArg some (by kernel_rfl))⟩,
  f23 := ⟨Tryz.f251.name, by decide, Tryz.func251.trans (congrArg some (by kernel_rfl))⟩,
  f24 := ⟨Tryz.f252.name, by decide, Tryz.func252.trans (congrArg some (by kernel_rfl))⟩,
  f25 := ⟨Tryz.f253.name, by decide, Tryz.func253.trans (congrArg some (by kernel_rfl))⟩,
  f26 := ⟨Tryz.f254.name, by decide, Tryz.func254.trans (congrArg some (by kernel_rfl))⟩,
  f27 := ⟨Tryz.f255.name, by decide, Tryz.func255.trans (congrArg some (by kernel_rfl))⟩,
  f28 := Tryz.func256.trans (congrArg some (by kernel_rfl)),
  f29 := Tryz.func257.trans (congrArg some (by kernel_rfl)),
  f46 := ⟨Tryz.f280.name, by decide, Tryz.func280.trans (congrArg some (by kernel_rfl))⟩,
  f47 := Tryz.func281.trans (congrArg some (by kernel_rfl)),
  f48 := Tryz.func282.trans (congrArg some (by kernel_rfl)),
  f49 := ⟨Tryz.f283.name, by decide, Tryz.func283.trans (congrArg some (by kernel_rfl))⟩,
  f50 := ⟨Tryz.f284.name, by decide, Tryz.func284.trans (congrArg some (by kernel_rfl))⟩,
  f57 := ⟨Tryz.f297.name, by decide, Tryz.func297.trans (congrArg some (by kernel_rfl))⟩,
  t0 := Tryz.underlying0,
  a0 := Tryz.isAgg0,
  z0 := Tryz.sizeOf0,
  v0 := Tryz.zeroValue0,
  t3 := Tryz.underlying3,
  a3 := Tryz.isAgg3,
  z3 := Tryz.sizeOf3,
  v3 := Tryz.zeroValue3,
  t4 := Tryz.underlying4,
  a4 := Tryz.isAgg4,
  z4 := Tryz.sizeOf4,
  v4 := Tryz.zeroValue4,
  t5 := Tryz.underlying5,
  a5 := Tryz.isAgg5,
  z5 := Tryz.sizeOf5,
  v5 := Tryz.zeroValue5,
  t9 := Tryz.underlying9,
  a9 := Tryz.isAgg9,
  z9 := Tryz.sizeOf9,
  v9 := Tryz.zeroValue9,
  t22 := Tryz.underlying220,
  a22 := Tryz.isAgg220,
  z22 := Tryz.sizeOf220,
  v22 := Tryz.zeroValue220,
  t25 := Tryz.underlying223,
  a25 := Tryz.isAgg223,
  z25 := Tryz.sizeOf223,
  v25 := Tryz.zeroValue223,
  t39 := Tryz.underlying268,
  a39 := Tryz.isAgg268,
  z39 := Tryz.sizeOf268,
  v39 := Tryz.zeroValue268,
  t45 := Tryz.underlying288,
  a45 := Tryz.isAgg288,
  z45 := Tryz.sizeOf288,
  v45 := Tryz.zeroValue288,
  t46 := Tryz.underlying289,
  a46 := Tryz.isAgg289,
  z46 := Tryz.sizeOf289,
  v46 := Tryz.zeroValue289,
  t50 := Tryz.underlying48,
  a50 := Tryz.isAgg48,
  z50 := Tryz.sizeOf48,
  v50 := Tryz.zeroValue48,
  t53 := Tryz.underlying295,
  a53 := Tryz.isAgg295,
  z53 := Tryz.sizeOf295,
  v53 := Tryz.zeroValue295,
  t55 := Tryz.underlying44,
  a55 := Tryz.isAgg44,
  z55 := Tryz.sizeOf44,
  v55 := Tryz.zeroValue44,
  t66 := Tryz.underlying312,
  a66 := Tryz.isAgg312,
  z66 := Tryz.sizeOf312,
  v66 := Tryz.zeroValue312,
  t70 := Tryz.underlying315,
  a70 := Tryz.isAgg315,
  z70 := Tryz.sizeOf315,
  v70 := Tryz.zeroValue315,
  t76 := Tryz.underlying324,
  a76 := Tryz.isAgg324,
  z76 := Tryz.sizeOf324,
  v76 := Tryz.zeroValue324,
  t77 := Tryz.underlying55,
  a77 := Tryz.isAgg55,
  z77 := Tryz.sizeOf55,
  v77 := Tryz.zeroValue55 }

instance : Inhabited Ent := ⟨⟨0, 0, 0⟩⟩

/-- An entry's cells, with its place in the heap. -/
def encE (x : Ent × Int) : List Value := [.int .i64 x.1.id, .int .i64 x.1.at_, .int .i64 x.1.turn, .int .i64 x.2]
def cfE (x y : Ent × Int) : Int := ordI x.1 y.1
theorem ltE (x y : Ent × Int) : ltOf cfE x y = decide (x.1.lt y.1) := by
  unfold ltOf cfE
  rw [Bool.eq_iff_iff]
  simp [ordI_neg]
theorem swoE : SWO (ltOf cfE) where
  irrefl x := by rw [ltE]; simpa using Ent.lt_irrefl x.1
  trans x y z h1 h2 := by rw [ltE] at *; simp at *; exact Ent.lt_trans h1 h2
  ntrans x y z h1 h2 := by rw [ltE] at *; simp at *; exact Ent.not_lt_trans h1 h2

set_option maxHeartbeats 1000000 in
theorem order_grow (b c : Nat) (e f : Ent) (p q : Int) (w : World) (hb : Blk w b (EntCells e p) 213) (hc : Blk w c (EntCells f q) 213) :
    Calls Tryz.prog 165 #[.pointer (some ⟨b, 0, none⟩), .pointer (some ⟨c, 0, none⟩)] w fun r w' => r = .returned (.int .i64 (ordI e f)) ∧ ∃ q os, w' = grow (w.drewN q) os := by
  have b1 := hb.cell 1
  have b2 := hb.cell 2
  have c1 := hc.cell 1
  have c2 := hc.cell 2
  have lb := hb.lt
  have lc := hc.lt
  clear hb hc
  simp at b1 b2 c1 c2
  go_enter Tryz.func165, Tryz.ntmps165
  go_wp2_with fail
  go_region_held3 (fun w' => w'.cell? ⟨b, 1, none⟩ = some (.int .i64 e.at_) ∧ w'.cell? ⟨b, 2, none⟩ = some (.int .i64 e.turn) ∧ w'.cell? ⟨c, 1, none⟩ = some (.int .i64 f.at_) ∧ w'.cell? ⟨c, 2, none⟩ = some (.int .i64 f.turn)) (go_keep)
    (first | (go_at_call 228; refine (compare_any _ _ _).mono ?_; rintro e w' ⟨rfl, rfl⟩) | (go_at_call 227; refine (or_any _ (cmpI e.at_ f.at_) (cmpI e.turn f.turn) _ ?_).mono ?_; (exact Blk.new_drew _ _ _); rintro e w' ⟨rfl, rfl⟩))
  go_wp2
  go_ret
  exact ⟨rfl, 1, _, by rw [alloc_eq_grow]; rfl⟩

set_option maxHeartbeats 1000000 in
theorem cmpE_any (x y : Ent × Int) (W : World) : Calls Tryz.prog 164 #[.agg (encE x).toArray, .agg (encE y).toArray] W fun e w' => e = .returned (.int .i64 (cfE x y)) ∧ ∃ q os', w' = grow (W.drewN q) os' := by
  obtain ⟨e, p⟩ := x
  obtain ⟨f, q⟩ := y
  have h := fun W' hb hc => order_grow W.heap.size (W.heap.size + 1) e f p q W' hb hc
  have HH := hid h
  clear h
  unfold encE cfE
  dsimp only
  go_enter Tryz.func164, Tryz.ntmps164
  go_wp2_with (go_at_call 165; refine (HH.out _ ((Blk.new _ _ _).alloc _) (by have := Blk.new (W.alloc (.cells (EntCells e p) 213)) (EntCells f q) 213; simpa using this)).mono ?_; rintro r w' ⟨rfl, n, os, rfl⟩)
  go_ret
  exact ⟨rfl, n, _, by rw [alloc_eq_grow, alloc_eq_grow, grow_grow]; show grow (grow (W.drewN n) _) _ = _; rw [grow_grow]⟩

theorem cmpE_lays (blk off size : Nat) (w : World) : CmpLays Tryz.prog 164 #[] encE 4 cfE blk off size w :=
  fun _ _ _ _ x y => cmpE_any x y _
end Go.Proofs.YtnippamifihdpaaGreatDoor
namespace Go.Proofs.YtnippamifihdpaaGreatDoor
open Go Go.RowKit Go.Shelf Go.Lib Go.Sort

/-- A block's cells hold entries, four to each. -/
def EntRow (cur : Array Value) (ys : List (Ent × Int)) : Prop :=
  ∀ i x, ys[i]? = some x → cur[i * 4]? = some (.int .i64 x.1.id) ∧ cur[i * 4 + 1]? = some (.int .i64 x.1.at_) ∧ cur[i * 4 + 2]? = some (.int .i64 x.1.turn) ∧ cur[i * 4 + 3]? = some (.int .i64 x.2)

theorem flat4 (xs : List (Ent × Int)) (i c : Nat) (hc : c < 4) : (xs.flatMap encE)[i * 4 + c]? = xs[i]?.bind fun x => (encE x)[c]? := by
  induction xs generalizing i with
  | nil => simp
  | cons x xs ih =>
    rw [List.flatMap_cons]
    have hl : (encE x).length = 4 := rfl
    cases i with
    | zero => rw [List.getElem?_append_left (by omega)]; simp
    | succ i =>
      rw [List.getElem?_append_right (by omega), hl, show (i + 1) * 4 + c - 4 = i * 4 + c by omega, ih]
      simp

theorem length_flat4 (xs : List (Ent × Int)) : (xs.flatMap encE).length = xs.length * 4 := by
  induction xs with
  | nil => rfl
  | cons x xs ih => rw [List.flatMap_cons, List.length_append, ih]; show 4 + _ = _; simp; omega

theorem encE_get (x : Ent × Int) (c : Nat) (hc : c < 4) : (encE x)[c]? = some (encE x)[c]! := by
  have : (encE x).length = 4 := rfl
  rw [List.getElem!_eq_getElem?_getD, List.getElem?_eq_getElem (by omega)]
  rfl

theorem holdsE {w : World} {g n : Nat} {xs : List (Ent × Int)} {cur : Array Value} (hb : Blk w g cur 213) (hn : xs.length = n) (ht : cur.toList.take (n * 4) = xs.flatMap encE) : HoldsK encE 4 w g 0 xs.toArray := by
  intro j hj
  have hj' : j < xs.length * 4 := by simpa using hj
  refine ⟨?_, hb.frozen _⟩
  rw [hb.cell, get_flatK _ _ _ _ (by simpa using hj'), Nat.zero_add]
  have e : cur[j]? = (cur.toList.take (n * 4))[j]? := by rw [List.getElem?_take, if_pos (by omega)]; simp
  have hq : j / 4 < xs.length := by omega
  have hm : j % 4 < 4 := Nat.mod_lt _ (by omega)
  rw [e, ht, show (xs.flatMap encE)[j]? = (xs.flatMap encE)[j / 4 * 4 + j % 4]? by congr 1; omega, flat4 _ _ _ hm, List.getElem?_eq_getElem hq]
  simp only [Option.bind_some]
  rw [encE_get _ _ hm]
  congr 3
  simp [hq]

theorem entRow_of {w : World} {g : Nat} {d : Array (Ent × Int)} {cur : Array Value} (hb : Blk w g cur 213) (h : HoldsK encE 4 w g 0 d) : EntRow cur d.toList := by
  intro i x hx
  have hi : i < d.size := by
    have := (List.getElem?_eq_some_iff.1 hx).1
    simpa using this
  have hxx : d[i]! = x := by
    rw [getElem!_pos d i hi]
    have := (List.getElem?_eq_some_iff.1 hx).2
    simpa using this
  have f := fun c hc => (hb.cell (0 + i * 4 + c)).symm.trans (h.cell (i := i) (c := c) hi hc).1
  have f0 := f 0 (by omega)
  have f1 := f 1 (by omega)
  have f2 := f 2 (by omega)
  have f3 := f 3 (by omega)
  rw [hxx] at f0 f1 f2 f3
  simp only [Nat.zero_add, Nat.add_zero] at f0 f1 f2 f3
  exact ⟨f0, f1, f2, f3⟩

theorem sortWorld_blk {w : World} {g : Nat} {cur : Array Value} {t : TypeId} (hb : Blk w g cur t) (m : Nat) (d : Array (Ent × Int)) (os : Array Obj) :
    ∃ cur', Blk (sortWorldK encE 4 w g 0 m d os) g cur' t := by
  refine ⟨putCells id 0 (flatK encE 4 d) cur, ?_⟩
  unfold Blk sortWorldK
  rw [heap_grow_old _ _ (by rw [size_putRowK]; exact hb.lt)]
  simp [putRowK, putRow, mapBlock, Sort.ahead, Array.getElem?_modify, show w.heap[g]? = _ from hb, onCells]

theorem sortWorld_fr (w : World) (g m : Nat) (d : Array (Ent × Int)) (os : Array Obj) : Fr (fun b => b = g) w (sortWorldK encE 4 w g 0 m d os) := by
  refine ⟨rfl, rfl, rfl, size_sortWorldK_c encE 4 w g 0 m d os, fun k hk hn => ?_⟩
  unfold sortWorldK
  rw [heap_grow_old _ _ (by rw [size_putRowK]; exact hk)]
  simp [putRowK, putRow, mapBlock, Sort.ahead, Array.getElem?_modify, Ne.symm hn]

/-- What the sort leaves. -/
def SortedE (w w' : World) (v : Value) (xs : List (Ent × Int)) : Prop :=
  Fr (fun b => some b = v.ownBlock) w w' ∧ ∃ ys, ys.Perm xs ∧ ys.Pairwise (fun a b => ¬ b.1.lt a.1) ∧
    (v = .slice none 0 0 ∧ ys = [] ∨ ∃ g cap cur, v = .slice (some ⟨g, 0, none⟩) ys.length cap ∧ Blk w' g cur 213 ∧ EntRow cur ys)

theorem sortE_any (base : Nat) (v : Value) (xs : List (Ent × Int)) (n : Nat) (w : World) (hn : xs.length = n) (hown : w.ownsRow base 213 4 v n (xs.flatMap encE)) (hlen : n ≤ 60000) :
    Calls Tryz.prog 163 #[v, .func (.func 164) #[] #[]] w fun e w' => e = .returned (.tuple #[]) ∧ SortedE w w' v xs := by
  rcases hown.2 with ⟨rfl, h0⟩ | ⟨g, cap, cur, rfl, _, hg, hc, hm, hs, ht⟩
  · have hcon := AnyF.slices_SortFunc_none Tryz.sortFuncA none 0 (.func (.func 164) #[] #[]) w
    change Calls Tryz.prog 163 _ _ _ at hcon
    refine hcon.mono ?_
    rintro e w' ⟨rfl, rfl⟩
    subst h0
    exact ⟨rfl, Fr.refl _ _, [], by rw [List.length_eq_zero_iff.1 hn], .nil, .inl ⟨rfl, rfl⟩⟩
  · have eg : ∀ args w, (callFunc 164 args).run Tryz.prog w = .ok (.enter 164 args) w := enters_of Tryz.func164 (by kernel_rfl) rfl
    have hH := holdsE hg hn ht
    have hsz : xs.toArray.size = n := by simpa using hn
    have hcon := AnyQ.slices_SortFunc Tryz.sortFuncA 4 Tryz.isAgg213 Tryz.sizeOf213 encE (fun _ => rfl) (fun x v hv => by simp [encE] at hv; rcases hv with rfl | rfl | rfl | rfl <;> rfl) cfE swoE 164 #[] g 0 cap xs.toArray w eg (cmpE_lays g 0 _ w) hH (show Blk w g cur 213 from hg).lt (by omega)
    change Calls Tryz.prog 163 _ _ _ at hcon
    rw [hsz] at hcon
    refine hcon.mono ?_
    rintro e w' ⟨rfl, d', m, os, hp, hso, rfl⟩
    have hps : d'.size = n := hp.1.trans hsz
    have hperm : d'.toList.Perm xs := by
      have := hp.2.2
      rw [show d'.extract 0 n = d' by rw [← hps]; exact Array.extract_size, show xs.toArray.extract 0 n = xs.toArray by rw [← hsz]; exact Array.extract_size] at this
      exact this
    refine ⟨rfl, (sortWorld_fr w g m d' os).mono fun b _ hb => by rw [hb]; rfl, d'.toList, hperm, ?_, .inr ?_⟩
    · rw [List.pairwise_iff_getElem]
      intro i j hi hj hij
      have hi' : i < d'.size := by simpa using hi
      have hj' : j < d'.size := by simpa using hj
      have := hso i j (Nat.zero_le _) hij (by omega)
      rw [getElem!_pos d' j hj', getElem!_pos d' i hi', ltE] at this
      simpa using this
    · obtain ⟨cur', hb'⟩ := sortWorld_blk hg m d' os
      refine ⟨g, cap, cur', by rw [show d'.toList.length = n by simpa using hps], hb', entRow_of hb' ?_⟩
      exact holdsK_sortWorldK_c encE 4 w g 0 xs.toArray d' m os hH (show Blk w g cur 213 from hg).lt (by omega)

theorem lt_total_mem {es : List Ent} (he : es.Pairwise Ent.lt) : ∀ a ∈ es, ∀ b ∈ es, a = b ∨ a.lt b ∨ b.lt a := by
  induction he with
  | nil => intro a ha; cases ha
  | cons h _ ih =>
    intro a ha b hb
    rcases List.mem_cons.1 ha with e1 | k1
    · rcases List.mem_cons.1 hb with e2 | k2
      · exact .inl (e1.trans e2.symm)
      · exact .inr (.inl (e1 ▸ h _ k2))
    · rcases List.mem_cons.1 hb with e2 | k2
      · exact .inr (.inr (e2 ▸ h _ k1))
      · exact ih a k1 b k2

/-- A sorted order of entries that are in order already but for their order. -/
theorem sorted_eq {ys : List (Ent × Int)} {es : List Ent} (hp : (ys.map (·.1)).Perm es) (hs : ys.Pairwise fun a b => ¬ b.1.lt a.1) (he : es.Pairwise Ent.lt) : ys.map (·.1) = es := by
  refine List.Perm.eq_of_pairwise (le := fun x y => ¬ y.lt x) ?_ ?_ ?_ hp
  · intro a b ha hb h1 h2
    by_cases hab : a = b
    · exact hab
    · have this := lt_total_mem he a (hp.mem_iff.1 ha) b hb
      rcases this with h | h | h
      · exact h
      · exact absurd h h2
      · exact absurd h h1
  · rw [List.pairwise_map]
    exact hs
  · exact he.imp fun h => Ent.lt_asymm h
end Go.Proofs.YtnippamifihdpaaGreatDoor
namespace Go.Proofs.YtnippamifihdpaaGreatDoor
open Go Go.RowKit Go.Shelf Go.Lib Go.Sort
attribute [local go_sem] Oper.semAt_some

/-- What a round of a range over an agenda keeps: the blocks of entries. -/
def EntKeeps (A C : World) : Prop := ∀ b cur, Blk A b cur 213 → Blk C b cur 213
theorem EntKeeps.trans {A B C : World} (h : EntKeeps A B) (k : EntKeeps B C) : EntKeeps A C := fun b cur hb => k b cur (h b cur hb)
theorem EntKeeps.put (W : World) (l : Nat) (o o' : Obj) (hl : W.heap[l]? = some o) (ho : o.isCells = false) : EntKeeps W (W.putObj l o') := by
  intro b cur hb
  have hne : b ≠ l := by
    rintro rfl
    have := hl.symm.trans hb
    injection this with this
    subst this
    cases ho
  exact (World.putObj_heap_other hne).trans hb

/-- The first entries of a heap's row, with their places. -/
def firstE (V : Nat → Ent) (row : List Nat) (k : Nat) : List (Ent × Int) := (List.range k).map fun i => (V (nth row i), (i : Int))
theorem firstE_succ (V : Nat → Ent) (row : List Nat) (k : Nat) : firstE V row (k + 1) = firstE V row k ++ [(V (nth row k), (k : Int))] := by simp [firstE, List.range_succ]
theorem length_firstE (V : Nat → Ent) (row : List Nat) (k : Nat) : (firstE V row k).length = k := by simp [firstE]
theorem firstE_all (V : Nat → Ent) (row : List Nat) : (firstE V row row.length).map (·.1) = row.map V := by
  apply List.ext_getElem?
  intro i
  simp only [firstE, List.map_map, List.getElem?_map]
  by_cases h : i < row.length
  · rw [List.getElem?_range h, nth_eq row i h]; rfl
  · rw [List.getElem?_eq_none (by simpa using Nat.le_of_not_lt h), List.getElem?_eq_none (by omega)]; rfl

/-- An entry that is in the agenda. -/
abbrev EntIn (es : List Ent) : Type := { e : Ent // e ∈ es }

def All1Rel (W : World) (V : Nat → Ent) (row : List Nat) (l i : Value) (wr : World) : Prop :=
  ∃ k, i = .int .i64 (k : Nat) ∧ k ≤ row.length ∧ Ext W wr ∧ wr.ownsRow W.heap.size 213 4 l k ((firstE V row k).flatMap encE)
def All2Rel (es : List Ent) (g : Nat) (cur : Array Value) (J : List (EntIn es) → World → Prop) (i : Value) (wr : World) : Prop :=
  ∃ k, i = .int .i64 (k : Nat) ∧ k ≤ es.length ∧ J (es.attach.take k) wr ∧ Blk wr g cur 213
def numI : Value → Nat | .int _ q => q.toNat | _ => 0

theorem infoEnt : (Tryz.prog.info? 213).map (fun i => (i.zero, i.size, i.bytes)) = some (some (.agg #[.int .i64 0, .int .i64 0, .int .i64 0, .int .i64 0]), 4, 32) := by kernel_rfl
theorem infoEnt_parts : ∃ i, Tryz.prog.info? 213 = some i ∧ i.zero = some (.agg #[.int .i64 0, .int .i64 0, .int .i64 0, .int .i64 0]) ∧ i.size = 4 ∧ i.bytes = 32 := by
  have h := infoEnt
  cases hq : Tryz.prog.info? 213 with
  | none => rw [hq] at h; cases h
  | some i => rw [hq] at h; simp at h; exact ⟨i, rfl, h.1, h.2.1, h.2.2⟩

set_option maxRecDepth 100000 in
set_option maxHeartbeats 3000000 in
theorem agAll_stops (n pa : Nat) (es : List Ent) (turns : Nat) (D : Nat → Prop) (B : Nat) (w : World) (hn : 2 ≤ n) (h : Ag w pa es turns D) (hlen : es.length ≤ 60000) (hB : w.cell? ⟨B, 0, none⟩ = some (ptr pa)) :
    SeqStopsK Fence.wide n Tryz.prog 162 #[ptr B] (fun e : EntIn es => #[.int .i64 e.1.id, .int .i64 e.1.at_]) EntKeeps (fun xs => xs = es.attach) (fun _ => True) es.length w := by
  intro l J Jx W hW hJ hJx hY h0
  obtain ⟨i0, hi, hz0, hz1, hz2⟩ := infoEnt_parts
  have hX : Ext w W := Ext.of_below hW
  have hA := h.fr hX fun _ _ => id
  obtain ⟨v, m, row, V, ents, clock, g, hD⟩ := hA
  have hBl := World.block_lt_of_cell? w _ hB
  have hB' : W.cell? ⟨B, 0, none⟩ = some (ptr pa) := (Fr.cell hX (a := ⟨B, 0, none⟩) hBl id).trans hB
  have hpa : W.cell? ⟨pa, 0, none⟩ = some v := by rw [g.blk.cell]; rfl
  have hrl : row.length = es.length := by have := g.eq_.length_eq; simpa using this.symm
  have hle : row.length ≤ 60000 := by omega
  have HRL := hid hrl
  obtain ⟨vp, vc, hv⟩ : ∃ ad c, v = .slice ad row.length c := by
    rcases g.rw_.own.2 with ⟨hv, h0⟩ | ⟨gg, cap, cur, hv, _⟩
    · exact ⟨none, 0, by rw [hv, h0]⟩
    · exact ⟨_, _, hv⟩
  have HR := hid g.rw_
  have HG := hid g
  have HY := hid hY
  have HJ := hid hJ
  have H0 := hid h0
  have HS : Hid (All1Rel W V row (.slice none 0 0) (.int .i64 0) W) := hid ⟨0, rfl, by omega, Ext.refl W, World.ownsRow_nil _ _ _ _⟩
  have _f1 : Fence.wide.fn 163 := trivial
  have _h1n : 1 ≤ n := by omega
  have _h2n : 1 ≤ n - 1 := by omega
  have HW := hid hX
  have HB := hid hB'
  clear hY hJ hJx h0 hB hW hX h g hrl hlen
  subst hv
  refine callsIn_of_wp Tryz.func162 rfl trivial ?_ rfl
  simp only [Tryz.ntmps162, List.size_toArray, List.length_cons, List.length_nil, Nat.reduceAdd, Nat.reduceSub, Array.replicate_succ, Array.replicate_zero, List.push_toArray, List.append_toArray, List.nil_append, List.cons_append]
  gi_wp2_with fail
  gi_loopw [3, 13] (fun l i wr => All1Rel W V row l i wr) (fun _ i _ => row.length - numI i)
  case atStart => exact HS.out
  case round =>
    clear HS
    obtain ⟨k, rfl, hk, hE, hown⟩ := hrel
    by_cases hlt : k < row.length
    · obtain ⟨g0, cap0, cur0, hvv, -, -, -, -, hcell⟩ := HR.out.at (by omega)
      injection hvv with q1 q2 q3
      subst q1 q3
      have hc := hcell k hlt
      have hcl := World.block_lt_of_cell? W _ hc
      have ck : wr.cell? ⟨g0, k, none⟩ = some (ptr (nth row k)) := (hE.cell (a := ⟨g0, k, none⟩) hcl id).trans hc
      have hb := (HR.out.ent k hlt).ext hE
      have e0 : wr.cell? ⟨nth row k, 0, none⟩ = some (.int .i64 (V (nth row k)).id) := by rw [hb.cell]; rfl
      have e1 : wr.cell? ⟨nth row k, 1, none⟩ = some (.int .i64 (V (nth row k)).at_) := by rw [hb.cell]; rfl
      have e2 : wr.cell? ⟨nth row k, 2, none⟩ = some (.int .i64 (V (nth row k)).turn) := by rw [hb.cell]; rfl
      have e3 : wr.cell? ⟨nth row k, 3, none⟩ = some (.int .i64 (k : Int)) := by rw [hb.cell]; rfl
      obtain ⟨b, hbn⟩ : ∃ b, nth row k = b := ⟨_, rfl⟩
      obtain ⟨x, hx⟩ : ∃ x, V b = x := ⟨_, rfl⟩
      rw [hbn, hx] at e0 e1 e2
      rw [hbn] at ck e3
      have hk1 : (k : Int) < (row.length : Int) := by omega
      have hk2 : decide ((k : Int) < (row.length : Int)) = true := by simp; omega
      have hk0 : (0 : Int) ≤ k := by omega
      obtain ⟨k1, hk1'⟩ : ∃ k1, k + 1 = k1 := ⟨_, rfl⟩
      have ek : (k : Int) + 1 = (k1 : Int) := by omega
      have HE := hid hE
      have HO := hid hown
      have HBN := hid hbn
      have HX := hid hx
      have HK1 := hid hk1'
      have HBB := hid hb
      have hmx : k + 1 ≤ maxLen := by unfold maxLen; omega
      have HMX := hid hmx
      have H47 : Hid ((k + 1) * 32 ≤ 140737488355328) := hid (by omega)
      have hbase : W.heap.size ≤ (wr.alloc (.cells #[.int .i64 x.id, .int .i64 x.at_, .int .i64 x.turn, .int .i64 (k : Int)] 213)).heap.size := by have := hE.size; simp; omega
      have HBASE := hid hbase
      have hnews : ∀ j u, (encE (x, (k : Int)))[j]? = some u → (wr.alloc (.cells #[.int .i64 x.id, .int .i64 x.at_, .int .i64 x.turn, .int .i64 (k : Int)] 213)).cell? ((⟨wr.heap.size, 0, none⟩ : Addr).add j) = some u := by
        intro j u hu
        have := (Blk.new wr #[.int .i64 x.id, .int .i64 x.at_, .int .i64 x.turn, .int .i64 (k : Int)] 213).cell (0 + j)
        rw [Nat.zero_add] at this
        have h2 : (⟨wr.heap.size, 0, none⟩ : Addr).add j = ⟨wr.heap.size, j, none⟩ := by simp [Addr.add]; exact fun h => h.symm
        rw [h2, this, List.getElem?_toArray]
        exact hu
      have HN := hid hnews
      have hone : ∀ u ∈ encE (x, (k : Int)), u.oneCell' = true := by
        intro u hu; simp [encE] at hu; rcases hu with rfl | rfl | rfl | rfl <;> rfl
      have HONE := hid hone
      clear hE hown hcell hc hb hbn hx hk1' hmx hbase hnews hone hk
      gi_wp2_with (gi_at_builtin; refine wpListIn_append_own _ rfl _ _ 220 rfl W.heap.size 213 i0 (.agg #[.int .i64 0, .int .i64 0, .int .i64 0, .int .i64 0]) 4 32 Tryz.underlying220 hi hz0 hz1 hz2 rfl (by decide) _ k ((firstE V row k).flatMap encE) rfl (ownsRow_ext HO.out ((Ext.refl _).alloc _)) ⟨wr.heap.size, 0, none⟩ 1 1 (encE (x, (k : Int))) rfl rfl HN.out HONE.out HMX.out H47.out HBASE.out ?_; intro v2 w3 hown3 hgrow _; have HO3 := hid hown3; have HG3 := hid hgrow; clear hown3 hgrow)
      go_roundw
      case rel =>
        refine ⟨k1, rfl, by have := HK1.out; omega, ?_, ?_⟩
        · refine (HE.out.alloc _).trans' (Fr.of_grown HG3.out) ?_
          intro b hb hq
          have := (World.ownsRow.lt HO.out b hq.symm).1
          omega
        · have := HO3.out
          rw [HK1.out] at this
          rw [← HK1.out, firstE_succ, List.flatMap_append, HBN.out, HX.out]
          have e : [(x, (k : Int))].flatMap encE = encE (x, (k : Int)) := by simp
          rw [e, HK1.out]
          exact this
      case measure =>
        have := HK1.out
        simp [numI]
        omega
    · have hkk : k = row.length := by omega
      subst hkk
      have hge : ¬ (row.length : Int) < (row.length : Int) := by omega
      have HE := hid hE
      have HO := hid hown
      clear hE hown hk hlt
      have hsort := sortE_any W.heap.size u3 (firstE V row row.length) row.length wr (length_firstE _ _ _) HO.out hle
      rcases HO.out.2 with ⟨hv, hz⟩ | ⟨g, cap, cur0, hv, hgb, -⟩
      · subst hv
        have hes : es = [] := List.length_eq_zero_iff.1 (by have := HRL.out; omega)
        have HS := hid hsort
        have HES := hid hes
        have HZ := hid hz
        clear hsort hes hz
        gi_wp2_with (gi_at_call 163; refine (callsIn_wide.2 HS.out).mono ?_; rintro r w2 ⟨rfl, hF2, -⟩; have HF2 := hid hF2; clear hF2)
        refine wpIn_loop_rounds 1 ?_
        rw [roundsIn_succ]
        gi_wp2
        go_end0
        refine ⟨⟨_, rfl⟩, .inl ⟨[], by have := HES.out; subst this; rfl, HJ.out _ _ _ none H0.out (Ext.grown (HE.out.trans' HF2.out fun b _ hq => by cases hq)) (fun _ h => by cases h)⟩⟩
      · subst hv
        have HS := hid hsort
        have HGB := hid hgb
        clear hsort hgb
        gi_wp2_with (gi_at_call 163; refine (callsIn_wide.2 HS.out).mono ?_; rintro r w2 ⟨rfl, hS2⟩; have HS2 := hid hS2; clear hS2)
        obtain ⟨hF2, ys, hperm, hpw, hys⟩ := HS2.out
        have hys' : ∃ cur, Blk w2 g cur 213 ∧ EntRow cur ys := by
          rcases hys with ⟨h, _⟩ | ⟨g', cap', cur, h, hb, hrow⟩
          · cases h
          · injection h with h; injection h with h; injection h with h; subst h; exact ⟨cur, hb, hrow⟩
        obtain ⟨cur, hb2, hrow⟩ := hys'
        have hmap : ys.map (·.1) = es := sorted_eq (((hperm.map (·.1)).trans (by rw [firstE_all])).trans HG.out.eq_.symm) hpw HG.out.sorted
        have hX2 : Ext W w2 := HE.out.trans' hF2 fun b hb hq => by injection hq with hq; subst hq; have := HGB.out; omega
        have hJ2 : J [] w2 := HJ.out _ _ _ none H0.out hX2.grown fun _ h => by cases h
        have HR2 := hid (show All2Rel es g cur J (.int .i64 0) w2 from ⟨0, rfl, by omega, hJ2, hb2⟩)
        have HROW := hid hrow
        have HMAP := hid hmap
        clear hys hpw hperm hF2 hb2 hJ2 hX2 hrow hmap HS2 HS
        gi_loopw [28] (fun i wr => All2Rel es g cur J i wr) (fun i _ => es.length - numI i)
        case atStart => exact HR2.out
        case round =>
          clear HR2
          obtain ⟨k, rfl, hk, hJ1, hb1⟩ := hrel
          have HJ1 := hid hJ1
          by_cases hlt : k < es.length
          · obtain ⟨y, hy⟩ : ∃ y, ys[k]? = some y := ⟨ys[k]'(by have := congrArg List.length HMAP.out; simp at this; omega), List.getElem?_eq_getElem _⟩
            obtain ⟨q0, q1, q2, q3⟩ := HROW.out k y hy
            have HRL2 := HRL.out
            have hex : ∃ hm, es.attach[k]? = some (⟨y.1, hm⟩ : EntIn es) := by
              obtain ⟨z, hz⟩ : ∃ z, es.attach[k]? = some z := ⟨es.attach[k]'(by simpa using hlt), List.getElem?_eq_getElem _⟩
              have e1 : es[k]? = some y.1 := by rw [← HMAP.out, List.getElem?_map, hy]; rfl
              have e2 : (es.attach.map (·.1))[k]? = some z.1 := by rw [List.getElem?_map, hz]; rfl
              rw [List.attach_map_subtype_val, e1] at e2
              injection e2 with e2
              exact ⟨e2 ▸ z.2, by rw [hz]; congr 1; exact Subtype.ext e2.symm⟩
            obtain ⟨hm, hex⟩ := hex
            have c0 : wr.cell? ⟨g, k * 4, none⟩ = some (.int .i64 y.1.id) := by rw [hb1.cell, q0]
            have c1 : wr.cell? ⟨g, k * 4 + 1, none⟩ = some (.int .i64 y.1.at_) := by rw [hb1.cell, q1]
            have c2 : wr.cell? ⟨g, k * 4 + 2, none⟩ = some (.int .i64 y.1.turn) := by rw [hb1.cell, q2]
            have c3 : wr.cell? ⟨g, k * 4 + 3, none⟩ = some (.int .i64 y.2) := by rw [hb1.cell, q3]
            obtain ⟨x, p⟩ := y
            dsimp only at c0 c1 c2 c3 hex
            have hk1 : (k : Int) < (row.length : Int) := by omega
            have hk2 : decide ((k : Int) < (row.length : Int)) = true := by simp; omega
            have hk0 : (0 : Int) ≤ k := by omega
            obtain ⟨k1, hk1'⟩ : ∃ k1, k + 1 = k1 := ⟨_, rfl⟩
            have ek : (k : Int) + 1 = (k1 : Int) := by omega
            have HK1 := hid hk1'
            have HEX := hid hex
            have HLT := hid hlt
            have HB1 := hid hb1
            clear HRL2 hk1' hex hlt hb1 q0 q1 q2 q3 hy hJ1 hk
            have hJ3 := HJ.out _ wr (wr.alloc (.cells #[.int .i64 x.id, .int .i64 x.at_, .int .i64 x.turn, .int .i64 p] 213)) none HJ1.out (Ext.grown ((Ext.refl wr).alloc _)) fun _ h => by cases h
            obtain ⟨fn, tmps, assign, body, hy, hR⟩ := HY.out (es.attach.take k) ⟨x, hm⟩ _ hJ3 (by have := HLT.out; simp; omega)
            clear hJ3
            gi_wp2
            refine hR.mono ?_
            rintro e W' (⟨rfl, hJ', hk'⟩ | ⟨rfl, hJx'⟩)
            · have HK' := hid hk'
              have HJ' := hid hJ'
              clear hk' hJ' hR hy
              gi_wp2
              go_roundw
              case rel =>
                refine ⟨k1, rfl, by have := HK1.out; have := HLT.out; omega, ?_, HK'.out _ _ (HB1.out.ext ((Ext.refl wr).alloc _))⟩
                rw [← HK1.out, List.take_add_one, HEX.out]
                exact HJ'.out
              case measure =>
                have := HK1.out
                have := HLT.out
                simp [numI]
                omega
            · have HX := hid hJx'
              clear hJx' hR hy
              gi_wp2
              refine bodyPost_ret (results_none rfl _ _ _) rfl ?_
              exact ⟨⟨_, rfl⟩, .inr ⟨_, trivial, HX.out⟩⟩
          · have hkk : k = es.length := by omega
            have hge : ¬ (k : Int) < (row.length : Int) := by have := HRL.out; omega
            have hge2 : decide ((k : Int) < (row.length : Int)) = false := by simpa using hge
            have HKK := hid hkk
            clear hkk hb1 hJ1 hk hlt
            gi_wp2
            go_end0
            refine ⟨⟨_, rfl⟩, .inl ?_⟩
            have := HJ1.out
            rw [HKK.out, show es.length = es.attach.length by simp, List.take_length] at this
            exact this

theorem all_any (pa : Nat) (w : World) : Calls Tryz.prog 78 #[ptr pa] w fun e w' => e = .returned (.func (.func 162) #[] #[ptr w.heap.size]) ∧ w' = w.alloc (.cells #[ptr pa] 101) := by
  go_enter Tryz.func78, Tryz.ntmps78
  go_wp2_with go_in
  go_ret
  exact ⟨rfl, rfl⟩
end Go.Proofs.YtnippamifihdpaaGreatDoor
