/- OrgUndone holds of every input. No condition. -/
import Derived.Test.YtnippamifihdpaaGreatDoorKUndone
import Derived.Test.YtnippamifihdpaaGreatDoorKRow
namespace Go.Proofs.YtnippamifihdpaaGreatDoor.orgUndone
open Go Go.ChangeShapes Go.WideShapes Go.ChangeAt Go.RowKit
set_option linter.unusedVariables false

theorem tab_of {W : World} (h : laidMet Tryz.prog Rows.orgUndoneRow.laid W) : Tab W := by
  have e : (Rows.laid_math_bits_deBruijn64tab : DataW Unit) = Lib.tabData .u8 (List.map (fun n : Nat => (n : Int)) Lib.deBruijn64tab) := by kernel_rfl
  have h : laidMet Tryz.prog [("math/bits.deBruijn64tab", Rows.laid_math_bits_deBruijn64tab)] W := h
  rw [e] at h
  intro j hj
  have := (Lib.tabIs_of_head gTab (by kernel_rfl) Tryz.underlying341 Tryz.underlying5 (by kernel_rfl) (by kernel_rfl) h).cell gTab j (by simpa using hj)
  rw [this, List.getD_eq_getElem?_getD, List.getD_eq_getElem?_getD, List.getElem?_map]
  cases Lib.deBruijn64tab[j]? <;> rfl
theorem array5 {α : Type} {cs : Array α} (h : cs.size = 5) : ∃ c0 c1 c2 c3 c4, cs = #[c0, c1, c2, c3, c4] := by
  obtain ⟨l⟩ := cs
  match l, h with
  | [c0, c1, c2, c3, c4], _ => exact ⟨c0, c1, c2, c3, c4, rfl⟩
set_option maxRecDepth 100000 in
/-- One call, read out of an argument. -/
theorem op_of_trod {H : Type} {enc : TypeId × Value → H} {w : World} {base : Nat} {v : Value} {d : DataW H} {p : List MemPlace} (hv : Value.okWide Tryz.prog w .any base 53 v) (h : DataW.Trod enc Tryz.prog w 0 (fun _ => true) true 53 v d p) :
    ∃ on k a b n, v = OpV on k a b n ∧ -9223372036854775808 ≤ k ∧ k ≤ 9223372036854775807 ∧ -9223372036854775808 ≤ n ∧ n ≤ 9223372036854775807 := by
  obtain ⟨cs, rfl, hsz⟩ := okWide_struct Tryz.underlying53 hv
  obtain ⟨v0, v1, v2, v3, v4, rfl⟩ := array5 (hsz.trans (by kernel_rfl))
  obtain ⟨fuel, ht⟩ := h
  obtain ⟨ys, n', hn', hy, hlen, hyl, hf⟩ := DataW.trod_struct Tryz.underlying53 ht
  have c3 : Tryz.prog.cellsOf 3 = 1 := by kernel_rfl
  have c9 : Tryz.prog.cellsOf 9 = 1 := by kernel_rfl
  match ys, hyl with
  | [y0, y1, y2, y3, y4], _ =>
    have f0 : DataW.trod enc Tryz.prog w 0 (fun _ => true) true n' 3 (([v0, v1, v2, v3, v4].drop 0).take (Tryz.prog.cellsOf 3)) = some y0 := hf 0 _ rfl
    rw [c3] at f0
    obtain ⟨n0, e0, _, _⟩ := DataW.trod_int Tryz.underlying3 f0
    have f1 : DataW.trod enc Tryz.prog w 0 (fun _ => true) true n' 3 (([v0, v1, v2, v3, v4].drop 1).take (Tryz.prog.cellsOf 3)) = some y1 := hf 1 _ rfl
    rw [c3] at f1
    obtain ⟨n1, e1, _, w1⟩ := DataW.trod_int Tryz.underlying3 f1
    have f2 : DataW.trod enc Tryz.prog w 0 (fun _ => true) true n' 9 (([v0, v1, v2, v3, v4].drop 2).take (Tryz.prog.cellsOf 9)) = some y2 := hf 2 _ rfl
    rw [c9] at f2
    obtain ⟨s2, e2, _, _⟩ := DataW.trod_string Tryz.underlying9 f2
    have f3 : DataW.trod enc Tryz.prog w 0 (fun _ => true) true n' 9 (([v0, v1, v2, v3, v4].drop 3).take (Tryz.prog.cellsOf 9)) = some y3 := hf 3 _ rfl
    rw [c9] at f3
    obtain ⟨s3, e3, _, _⟩ := DataW.trod_string Tryz.underlying9 f3
    have f4 : DataW.trod enc Tryz.prog w 0 (fun _ => true) true n' 3 (([v0, v1, v2, v3, v4].drop 4).take (Tryz.prog.cellsOf 3)) = some y4 := hf 4 _ rfl
    rw [c3] at f4
    obtain ⟨n4, e4, _, w4⟩ := DataW.trod_int Tryz.underlying3 f4
    simp only [List.drop_zero, List.drop_succ_cons, List.take_succ_cons, List.take_zero, List.cons.injEq, and_true] at e0 e1 e2 e3 e4
    subst e0 e1 e2 e3 e4
    have w1 : -9223372036854775808 ≤ n1 ∧ n1 ≤ 9223372036854775807 := by simpa [Lit.wf, IntKind.min, IntKind.max, IntKind.signed, IntKind.bits] using w1
    have w4 : -9223372036854775808 ≤ n4 ∧ n4 ≤ 9223372036854775807 := by simpa [Lit.wf, IntKind.min, IntKind.max, IntKind.signed, IntKind.bits] using w4
    exact ⟨n0, n1, s2, s3, n4, rfl, w1.1, w1.2, w4.1, w4.2⟩

set_option maxRecDepth 100000 in
theorem contract (H : Type) (enc : TypeId × Value → H) (W : World) (base : Nat) (args : Array Value) (ds gs : List (DataW H)) (before : List MemPlace)
    (hval : ∀ (j : Nat) t v, Tryz.f6.params[j]? = some t → args[j]? = some v → Value.okWide Tryz.prog W .any base t v)
    (hW : DataW.Whole enc Tryz.prog Tryz.f6.params.toList Rows.orgUndoneSpec.vars false W args.toList ds gs before) (hL : laidMet Tryz.prog Rows.orgUndoneRow.laid W) :
    Calls Tryz.prog 6 args W fun e W' => ∃ v, e = .returned v ∧ Rows.orgUndoneSpec.post enc Tryz.prog Tryz.f6 false true false false W args v W' := by
  have hW' := hW
  obtain ⟨p, q, hA0, hV, hbe, hfz, hnd⟩ := hW
  have hA : DataW.TrodAll enc Tryz.prog W 0 (fun _ => true) true Tryz.f6.params.toList args.toList ds p := hA0
  rw [Tryz.params6] at hA hval
  obtain ⟨v0, vs0, d0, ds0, p0, q0, hargs, hds, hp, h0, r0⟩ := trodAll_cons hA
  obtain ⟨v1, vs1, d1, ds1, p1, q1, rfl, rfl, rfl, h1, r1⟩ := trodAll_cons r0
  obtain ⟨rfl, rfl, rfl⟩ := trodAll_nil r1
  obtain rfl : args = #[v0, v1] := by cases args; simp_all
  obtain ⟨fuel0, t0⟩ := h0
  obtain ⟨on, k, a, b, n, rfl, hk1, hk2, hn1, hn2⟩ := op_of_trod (hval 1 53 v1 rfl rfl) h1
  have hcells : ∃ ad len cap, v0 = .slice ad len cap := by
    have hv := hval 0 22 v0 rfl rfl
    exact okWide_slice Tryz.underlying22 hv
  obtain ⟨ad0, len0, cap0, rfl⟩ := hcells
  obtain ⟨ad, len, cap, ops, hsl, hops, hlen⟩ := ops_of_trod (v := .slice ad0 len0 cap0) (by simpa [Value.cells] using t0)
  injection hsl with q1 q2 q3
  subst q1 q2 q3
  unfold maxLen at hlen
  refine (undone_walk W ad0 len0 cap0 on k n a b ops hops (tab_of hL) (by omega)).mono fun e W' ⟨he, hg⟩ => ?_
  subst he
  refine ⟨_, rfl, post_true hW' rfl ?_ ?_ ?_ (by kernel_rfl) hg⟩
  · rw [Tryz.params6]
    intro t ht
    simp only [List.mem_cons, List.not_mem_nil, or_false] at ht
    rcases ht with rfl | rfl
    · exact ⟨by kernel_rfl, of_decide_eq_true (by kernel_rfl)⟩
    · exact ⟨by kernel_rfl, of_decide_eq_true (by kernel_rfl)⟩
  · rw [Tryz.params6]
    intro ds' hl
    match ds', hl with
    | [d, d'], _ => rfl
  · rw [Tryz.params6, hds]
    rfl
end Go.Proofs.YtnippamifihdpaaGreatDoor.orgUndone
