/- Sets of names: all of them, rising. -/
import Derived.Test.YtnippamifihdpaaGreatDoorKNames
import Derived.Test.YtnippamifihdpaaGreatDoorKAllA
import Derived.Shelf.SlIter.Nil
import Derived.Shelf.SortM.Plain
import Derived.Shelf.SortM.SortNone
namespace Go.Proofs.YtnippamifihdpaaGreatDoor
open Go Go.RowKit Go.Maps Go.Sort Go.Shelf

def Tryz.keysA_ren : Go.Shelf.Ren := ⟨fun | 7 => 157 | 10 => 222 | n => n, fun | 23 => 106 | 26 => 9 | 3 => 140 | 28 => 203 | 0 => 0 | 27 => 202 | 33 => 38 | 4 => 4 | n => n, fun | n => n⟩
theorem Tryz.keysA : SlLaysZ.n7 Tryz.prog Tryz.keysA_ren := {
  mixed := by kernel_rfl,
  f7 := ⟨Tryz.f157.name, by decide, Tryz.func157.trans (congrArg some (by kernel_rfl))⟩,
  f10 := ⟨Tryz.f222.name, by decide, Tryz.func222.trans (congrArg some (by kernel_rfl))⟩,
  t0 := Tryz.underlying0,
  a0 := Tryz.isAgg0,
  z0 := Tryz.sizeOf0,
  v0 := Tryz.zeroValue0,
  t4 := Tryz.underlying4,
  a4 := Tryz.isAgg4,
  z4 := Tryz.sizeOf4,
  v4 := Tryz.zeroValue4,
  t23 := Tryz.underlying106,
  a23 := Tryz.isAgg106,
  z23 := Tryz.sizeOf106,
  v23 := Tryz.zeroValue106,
  t26 := Tryz.underlying9,
  a26 := Tryz.isAgg9,
  z26 := Tryz.sizeOf9,
  v26 := Tryz.zeroValue9,
  t27 := Tryz.underlying202,
  a27 := Tryz.isAgg202,
  z27 := Tryz.sizeOf202,
  v27 := Tryz.zeroValue202,
  t28 := Tryz.underlying203,
  a28 := Tryz.isAgg203,
  z28 := Tryz.sizeOf203,
  v28 := Tryz.zeroValue203,
  t33 := Tryz.underlying38,
  a33 := Tryz.isAgg38,
  z33 := Tryz.sizeOf38,
  v33 := Tryz.zeroValue38 }
def Tryz.sortedA_ren : Go.Shelf.Ren := ⟨fun | 6 => 156 | 8 => 220 | 9 => 221 | 11 => 246 | 13 => 226 | 12 => 247 | 23 => 256 | 24 => 257 | 14 => 271 | 15 => 272 | 16 => 273 | 17 => 274 | 18 => 275 | 19 => 276 | 20 => 277 | 21 => 278 | 22 => 279 | 25 => 293 | 26 => 281 | 27 => 282 | 28 => 294 | 29 => 295 | 30 => 296 | 31 => 303 | n => n, fun | 26 => 9 | 28 => 203 | 24 => 34 | 0 => 0 | 3 => 3 | 37 => 268 | 48 => 295 | 50 => 44 | 4 => 4 | 40 => 289 | 39 => 288 | 45 => 48 | 5 => 5 | 9 => 9 | 51 => 312 | 55 => 315 | 57 => 324 | 58 => 55 | 33 => 38 | n => n, fun | n => n⟩
theorem Tryz.sortedA : SlLaysZ.n6 Tryz.prog Tryz.sortedA_ren := {
  mixed := by kernel_rfl,
  f6 := ⟨Tryz.f156.name, by decide, Tryz.func156.trans (congrArg some (by kernel_rfl))⟩,
  f8 := ⟨Tryz.f220.name, by decide, Tryz.func220.trans (congrArg some (by kernel_rfl))⟩,
  f11 := ⟨Tryz.f246.name, by decide, Tryz.func246.trans (congrArg some (by kernel_rfl))⟩,
  t0 := Tryz.underlying0,
  a0 := Tryz.isAgg0,
  z0 := Tryz.sizeOf0,
  v0 := Tryz.zeroValue0,
  t24 := Tryz.underlying34,
  a24 := Tryz.isAgg34,
  z24 := Tryz.sizeOf34,
  v24 := Tryz.zeroValue34,
  t26 := Tryz.underlying9,
  a26 := Tryz.isAgg9,
  z26 := Tryz.sizeOf9,
  v26 := Tryz.zeroValue9,
  t28 := Tryz.underlying203,
  a28 := Tryz.isAgg203,
  z28 := Tryz.sizeOf203,
  v28 := Tryz.zeroValue203,
  i26 := by kernel_rfl }
def Tryz.sortA_ren : Go.Shelf.Ren := ⟨fun | 6 => 221 | 8 => 226 | 9 => 247 | 19 => 256 | 20 => 257 | 21 => 271 | 22 => 272 | 23 => 273 | 24 => 274 | 25 => 275 | 26 => 276 | 27 => 277 | 28 => 278 | 29 => 279 | 36 => 293 | 31 => 281 | 32 => 282 | 37 => 294 | 38 => 295 | 39 => 296 | 41 => 303 | n => n, fun | 27 => 34 | 29 => 9 | 3 => 3 | 32 => 268 | 26 => 34 | 0 => 0 | 44 => 295 | 46 => 44 | 4 => 4 | 36 => 289 | 35 => 288 | 41 => 48 | 5 => 5 | 9 => 9 | 53 => 312 | 57 => 315 | 63 => 324 | 64 => 55 | n => n, fun | n => n⟩
theorem Tryz.sortA : SlLaysM.n6 Tryz.prog Tryz.sortA_ren := {
  mixed := by kernel_rfl,
  f6 := ⟨Tryz.f221.name, by decide, Tryz.func221.trans (congrArg some (by kernel_rfl))⟩,
  f8 := Tryz.func226.trans (congrArg some (by kernel_rfl)),
  f9 := ⟨Tryz.f247.name, by decide, Tryz.func247.trans (congrArg some (by kernel_rfl))⟩,
  f19 := Tryz.func256.trans (congrArg some (by kernel_rfl)),
  f20 := Tryz.func257.trans (congrArg some (by kernel_rfl)),
  f21 := ⟨Tryz.f271.name, by decide, Tryz.func271.trans (congrArg some (by kernel_rfl))⟩,
  f22 := ⟨Tryz.f272.name, by decide, Tryz.func272.trans (congrArg some (by kernel_rfl))⟩,
  f23 := ⟨Tryz.f273.name, by decide, Tryz.func273.trans (congrArg some (by kernel_rfl))⟩,
  f24 := ⟨Tryz.f274.name, by decide, Tryz.func274.trans (congrArg some (by kernel_rfl))⟩,
  f25 := ⟨Tryz.f275.name, by decide, Tryz.func275.trans (congrArg some (by kernel_rfl))⟩,
  f26 := ⟨Tryz.f276.name, by decide, Tryz.func276.trans (congrArg some (by kernel_rfl))⟩,
  f27 := ⟨Tryz.f277.name, by decide, Tryz.func277.trans (congrArg some (by kernel_rfl))⟩,
  f28 := ⟨Tryz.f278.name, by decide, Tryz.func278.trans (congrArg some (by kernel_rfl))⟩,
  f29 := ⟨Tryz.f279.name, by decide, Tryz.func279.trans (congrArg some (by kernel_rfl))⟩,
  f31 := Tryz.func281.trans (congrArg some (by kernel_rfl)),
  f32 := Tryz.func282.trans (congrArg some (by kernel_rfl)),
  f36 := ⟨Tryz.f293.name, by decide, Tryz.func293.trans (congrArg some (by kernel_rfl))⟩,
  f37 := ⟨Tryz.f294.name, by decide, Tryz.func294.trans (congrArg some (by kernel_rfl))⟩,
  f38 := ⟨Tryz.f295.name, by decide, Tryz.func295.trans (congrArg some (by kernel_rfl))⟩,
  f39 := ⟨Tryz.f296.name, by decide, Tryz.func296.trans (congrArg some (by kernel_rfl))⟩,
  f41 := ⟨Tryz.f303.name, by decide, Tryz.func303.trans (congrArg some (by kernel_rfl))⟩,
  t0 := Tryz.underlying0,
  a0 := Tryz.isAgg0,
  z0 := Tryz.sizeOf0,
  v0 := Tryz.zeroValue0,
  t3 := Tryz.underlying3,
  a3 := Tryz.isAgg3,
  z3 := Tryz.sizeOf3,
  v3 := Tryz.zeroValue3,
  t4 := Tryz.underlying4,
  a4 := Tryz.isAgg4,
  z4 := Tryz.sizeOf4,
  v4 := Tryz.zeroValue4,
  t5 := Tryz.underlying5,
  a5 := Tryz.isAgg5,
  z5 := Tryz.sizeOf5,
  v5 := Tryz.zeroValue5,
  t9 := Tryz.underlying9,
  a9 := Tryz.isAgg9,
  z9 := Tryz.sizeOf9,
  v9 := Tryz.zeroValue9,
  t26 := Tryz.underlying34,
  a26 := Tryz.isAgg34,
  z26 := Tryz.sizeOf34,
  v26 := Tryz.zeroValue34,
  t27 := Tryz.underlying34,
  a27 := Tryz.isAgg34,
  z27 := Tryz.sizeOf34,
  v27 := Tryz.zeroValue34,
  t29 := Tryz.underlying9,
  a29 := Tryz.isAgg9,
  z29 := Tryz.sizeOf9,
  v29 := Tryz.zeroValue9,
  t32 := Tryz.underlying268,
  a32 := Tryz.isAgg268,
  z32 := Tryz.sizeOf268,
  v32 := Tryz.zeroValue268,
  t35 := Tryz.underlying288,
  a35 := Tryz.isAgg288,
  z35 := Tryz.sizeOf288,
  v35 := Tryz.zeroValue288,
  t36 := Tryz.underlying289,
  a36 := Tryz.isAgg289,
  z36 := Tryz.sizeOf289,
  v36 := Tryz.zeroValue289,
  t41 := Tryz.underlying48,
  a41 := Tryz.isAgg48,
  z41 := Tryz.sizeOf48,
  v41 := Tryz.zeroValue48,
  t44 := Tryz.underlying295,
  a44 := Tryz.isAgg295,
  z44 := Tryz.sizeOf295,
  v44 := Tryz.zeroValue295,
  t46 := Tryz.underlying44,
  a46 := Tryz.isAgg44,
  z46 := Tryz.sizeOf44,
  v46 := Tryz.zeroValue44,
  t53 := Tryz.underlying312,
  a53 := Tryz.isAgg312,
  z53 := Tryz.sizeOf312,
  v53 := Tryz.zeroValue312,
  t57 := Tryz.underlying315,
  a57 := Tryz.isAgg315,
  z57 := Tryz.sizeOf315,
  v57 := Tryz.zeroValue315,
  t63 := Tryz.underlying324,
  a63 := Tryz.isAgg324,
  z63 := Tryz.sizeOf324,
  v63 := Tryz.zeroValue324,
  t64 := Tryz.underlying55,
  a64 := Tryz.isAgg55,
  z64 := Tryz.sizeOf55,
  v64 := Tryz.zeroValue55 }

theorem sortsA (m : Nat) : AnyZ.SortsIn Tryz.prog Tryz.sortedA_ren Fence.wide m :=
  ⟨fun blk off cap ss W hH hblk hsz => callsIn_wide.2 (AnyM.slices_Sort_string Tryz.sortA blk off cap ss W hH hblk hsz),
   fun p cap W => callsIn_wide.2 (AnyM.slices_Sort_string_none Tryz.sortA p cap W)⟩

set_option maxHeartbeats 2000000 in
set_option maxRecDepth 100000 in
theorem names_raw {H : Type} (b nn : Nat) (D0 : DataW H) (R : Value → Option (DataW H × List MemPlace)) (w : World) (hown : w.ownsMap Tryz.prog 9 R b nn D0) (hmax : Maps.size D0 ≤ maxLen) (hbytes : Maps.size D0 * 16 ≤ 140737488355328)
    (es : Array MapEntry) (clock : Nat) (hm : w.heap[b]? = some (.map es clock)) (hne : ((es.size : Int) == 0) = false) :
    Calls Tryz.prog 68 #[.map (some b)] w fun e w' => ∃ (v : Value) (ss : List (List UInt8)), e = .returned v ∧ ss.Perm (strKeys D0) ∧
      w'.ownsRow w.heap.size 9 1 v ss.length ((ss.mergeSort (fun x y => decide (x ≤ y))).map encStr) ∧ (v = .slice none 0 0 ↔ ss = []) ∧ Below w.heap.size w w' := by
  refine (callsIn_wide (n := 6)).1 ?_
  have hbl := hown.lt
  have hseq : SeqGives Fence.wide 2 Tryz.prog 222 #[.pointer (some ⟨w.heap.size, 0, none⟩)] encStr (fun ss => ss.Perm (strKeys D0)) (Maps.size D0) (w.alloc (.cells #[.map (some b)] 106)) :=
    AnyZ.keys_gives (ρ := Tryz.keysA_ren) { Tryz.keysA with } Fence.wide _ trivial rfl (by omega) w.heap.size b nn D0 _ (by simp) (by simp) (by
      obtain ⟨es, clock, hb, Ft, hs, hD⟩ := hown
      exact ⟨es, clock, (Below.heap_alloc _ _ b hbl).trans hb, Ft, hs, hD⟩)
  have cK : ∀ mb W, CallsIn Fence.wide 5 Tryz.prog 157 #[.map mb] W fun e w' => e = .returned (.func (.func 222) #[] #[.pointer (some ⟨W.heap.size, 0, none⟩)]) ∧ w' = W.alloc (.cells #[.map mb] 106) := fun mb W => AnyZ.keys_in Tryz.keysA Fence.wide 5 trivial rfl mb W
  have cS := AnyZ.sorted_in Tryz.sortedA Fence.wide 5 trivial trivial trivial trivial rfl (by omega) (sortsA _) (enters_of Tryz.func221 (by kernel_rfl) rfl) 222 #[.pointer (some ⟨w.heap.size, 0, none⟩)] trivial (enters_of Tryz.func222 (by kernel_rfl) rfl) _ _ hmax hbytes _ hseq
  change CallsIn _ _ Tryz.prog 156 _ _ _ at cS
  have hln := run_len_map (P := Tryz.prog) (w := w) 106 3 b es clock (by kernel_rfl) hm
  have hfK : Fence.wide.fn 157 := trivial
  have hfS : Fence.wide.fn 156 := trivial
  refine callsIn_of_wp Tryz.func68 rfl trivial ?_ rfl
  simp only [Tryz.ntmps68, List.size_toArray, List.length_cons, List.length_nil, Nat.reduceAdd, Nat.reduceSub, Array.replicate_succ, Array.replicate_zero, List.push_toArray, List.append_toArray, List.nil_append, List.cons_append]
  gi_wp2_with (first
    | (gi_at_call 157; refine (cK _ _).mono ?_; rintro e w' ⟨rfl, rfl⟩)
    | (gi_at_call 156; refine cS.mono ?_; rintro e w' ⟨v, ss, rfl, hS, hrow, hnil, hb⟩))
  go_ret
  exact ⟨v, ss, rfl, hS, ownsRow_base_a hrow (by simp), hnil, ((Below.refl _ w).alloc (Nat.le_refl _) _).trans (hb.mono (by simp))⟩

/-- The names of a set, rising by their bytes. -/
def sortNames (l : List ByteArray) : List ByteArray := ((l.map fun s => s.data.toList).mergeSort fun x y => decide (x ≤ y)).map fun x => ⟨x.toArray⟩
theorem sortNames_length (l : List ByteArray) : (sortNames l).length = l.length := by simp [sortNames]

set_option maxRecDepth 100000 in
theorem namesNone_any (w : World) : Calls Tryz.prog 68 #[.map none] w fun e w' => e = .returned (.slice none 0 0) ∧ w = w' := by
  have hln := run_len_nilMap (P := Tryz.prog) (w := w) 106 3 (by kernel_rfl)
  go_enter Tryz.func68, Tryz.ntmps68
  go_wp2_with fail
  go_ret
  exact ⟨rfl, rfl⟩
set_option maxRecDepth 100000 in
theorem names_empty (w : World) (m : Nat) (es : Array MapEntry) (clock : Nat) (hm : w.heap[m]? = some (.map es clock)) (h0 : es.size = 0) : Calls Tryz.prog 68 #[.map (some m)] w fun e w' => e = .returned (.slice none 0 0) ∧ w = w' := by
  have hln := run_len_map (P := Tryz.prog) (w := w) 106 3 m es clock (by kernel_rfl) hm
  rw [h0] at hln
  go_enter Tryz.func68, Tryz.ntmps68
  go_wp2_with fail
  go_ret
  exact ⟨rfl, rfl⟩

theorem row_form' {w : World} {base e n : Nat} {v : Value} {xs : List Value} (h : w.ownsRow base e 1 v n xs) : ∃ ad cap, v = .slice ad n cap := by
  obtain ⟨hl, h2⟩ := h
  rcases h2 with ⟨hv, hn⟩ | ⟨g, cap, cur, hv, hb, hg, hc, hm, hs, ht⟩
  · exact ⟨none, 0, by rw [hv, hn]⟩
  · exact ⟨_, _, hv⟩
theorem namesAll_any (w : World) (m : Nat) (l : List ByteArray) (h : SetAt w m l) (hl : l.length ≤ 1000000) :
    Calls Tryz.prog 68 #[.map (some m)] w fun e w' => ∃ v, e = .returned v ∧ NameList w w' v (sortNames l) := by
  obtain ⟨es, clock, hm, hp, _⟩ := id h
  have hlen : es.toList.length = l.length := by
    have := congrArg List.length hp
    simpa [pairsOf] using this
  rw [Array.length_toList] at hlen
  by_cases h0 : es.size = 0
  · refine (names_empty w m es clock hm h0).mono ?_
    rintro e w' ⟨rfl, rfl⟩
    have : l = [] := List.eq_nil_of_length_eq_zero (by omega)
    subst this
    have e : sortNames [] = [] := by simp [sortNames]
    rw [e]
    exact ⟨_, rfl, ⟨none, 0, rfl⟩, Fr.refl _ _, World.ownsRow_nil _ _ _ _⟩
  · obtain ⟨D0, hown, hperm, hsz⟩ := h.ownsMap hl
    refine (names_raw m _ D0 anyR w hown (by rw [hsz]; unfold maxLen; omega) (by rw [hsz]; omega) es clock hm (by rw [beq_eq_false_iff_ne]; omega)).mono ?_
    rintro e w' ⟨v, ss, rfl, hss, hrow, _, hB⟩
    have hs2 : ss.mergeSort (fun x y => decide (x ≤ y)) = (l.map fun s => s.data.toList).mergeSort fun x y => decide (x ≤ y) := mergeSort_of_perm (hss.trans hperm)
    have hl2 : ss.length = (sortNames l).length := by rw [sortNames_length, (hss.trans hperm).length_eq, List.length_map]
    rw [hs2, hl2] at hrow
    refine ⟨v, rfl, row_form' hrow, Ext.of_below hB, ?_⟩
    rw [show (sortNames l).map Value.string = ((l.map fun s => s.data.toList).mergeSort fun x y => decide (x ≤ y)).map encStr from by
      unfold sortNames
      rw [List.map_map]
      rfl]
    exact hrow
end Go.Proofs.YtnippamifihdpaaGreatDoor
