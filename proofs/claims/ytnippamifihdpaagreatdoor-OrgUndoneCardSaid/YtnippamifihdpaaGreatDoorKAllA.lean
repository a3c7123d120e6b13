/- Lists of names. A register's names (printed by gen_all.py): those known that a closure lets in. A register's names (printed by gen_all.py): those known that a closure lets in. -/
import Derived.Test.YtnippamifihdpaaGreatDoorKRegU
import Derived.Test.YtnippamifihdpaaGreatDoorKRegR
import Derived.LoopTactic
namespace Go.Proofs.YtnippamifihdpaaGreatDoor
open Go Go.RowKit

def numOf : Value → Nat | .int _ q => q.toNat | _ => 0
/-- Of the first k numbers the names of those that are known and let in. -/
def pickTo (names : List ByteArray) (kb : List (Option Nat)) (f : Nat → Bool) (k : Nat) : List ByteArray :=
  ((List.range k).filter fun i => (kb.getD i none).isSome && f i).map fun i => names.getD i ⟨#[]⟩
theorem pickTo_none {names : List ByteArray} {kb : List (Option Nat)} {f : Nat → Bool} {k : Nat} (h : kb[k]? = some none) : pickTo names kb f (k + 1) = pickTo names kb f k := by
  unfold pickTo
  rw [List.range_succ, List.filter_append]
  simp [List.getD_eq_getElem?_getD, h]
theorem pickTo_no {names : List ByteArray} {kb : List (Option Nat)} {f : Nat → Bool} {k : Nat} (h : f k = false) : pickTo names kb f (k + 1) = pickTo names kb f k := by
  unfold pickTo
  rw [List.range_succ, List.filter_append]
  simp [h]
theorem pickTo_yes {names : List ByteArray} {kb : List (Option Nat)} {f : Nat → Bool} {k b : Nat} {s : ByteArray} (hx : kb[k]? = some (some b)) (h : f k = true) (hs : names[k]? = some s) :
    pickTo names kb f (k + 1) = pickTo names kb f k ++ [s] := by
  unfold pickTo
  rw [List.range_succ, List.filter_append]
  simp [List.getD_eq_getElem?_getD, h, hx, hs]
theorem pickTo_le (names : List ByteArray) (kb : List (Option Nat)) (f : Nat → Bool) (k : Nat) : (pickTo names kb f k).length ≤ k := by
  unfold pickTo
  rw [List.length_map]
  exact Nat.le_trans (List.length_filter_le _ _) (by simp)

/-- A list of names, made new. -/
def NameList (w w' : World) (l : Value) (xs : List ByteArray) : Prop := (∃ ad c, l = .slice ad xs.length c) ∧ Ext w w' ∧ w'.ownsRow w.heap.size 9 1 l xs.length (xs.map .string)
end Go.Proofs.YtnippamifihdpaaGreatDoor
namespace Go.Proofs.YtnippamifihdpaaGreatDoor
open Go Go.RowKit


def AllHasRel (w : World) (names : List ByteArray) (kb : List (Option Nat)) (f : Nat → Bool) (l k : Value) (wr : World) : Prop :=
  ∃ (ad : Option Addr) (c kk : Nat), k = .int .i64 kk ∧ kk ≤ kb.length ∧ l = .slice ad (pickTo names kb f kk).length c ∧ Ext w wr ∧ wr.ownsRow w.heap.size 9 1 l (pickTo names kb f kk).length ((pickTo names kb f kk).map .string)

set_option maxRecDepth 100000 in
set_option maxHeartbeats 8000000 in
theorem allHas_any (w : World) (own : Own) (p : Nat) (mv nv kv : Value) (names : List ByteArray) (kb : List (Option Nat)) (f : Nat → Bool) (s : Nat)
    (h : RegAt w own true 114 mv nv kv names kb) (c1 : w.cell? ⟨p, 5, none⟩ = some nv) (c2 : w.cell? ⟨p, 6, none⟩ = some kv)
    (hcall : ∀ W i, Ext w W → i < names.length → Calls Tryz.prog 65 #[.agg #[.int .u64 (s : Nat)], .int .i64 (i : Nat)] W fun e w' => e = .returned (.bool (f i)) ∧ Ext W w') :
    Calls Tryz.prog 67 #[.pointer (some ⟨p, 4, none⟩), .func (.func 65) #[.agg #[.int .u64 (s : Nat)]] #[]] w fun e w' => ∃ l, e = .returned l ∧ NameList w w' l (pickTo names kb f kb.length) := by
  obtain ⟨i1, hi1, hy1, hy2, hy3⟩ := info_parts infoSR
  have hle := h.le
  have hlen := h.len
  obtain ⟨ad, cap, hkv⟩ := row_form h.k
  subst hkv
  have hn := h.n
  have hk := h.k
  have lp := World.block_lt_of_cell? w _ c1
  have H0 : Hid (AllHasRel w names kb f (.slice none 0 0) (.int .i64 ((0 : Nat) : Int)) w) := hid ⟨none, 0, 0, rfl, Nat.zero_le _, rfl, Fr.refl _ _, World.ownsRow_nil _ _ _ _⟩
  have HN := hid hn
  have HK := hid hk
  have HC := hid hcall
  have HC1 := hid c1
  clear h hn hk hcall
  go_enter Tryz.func67, Tryz.ntmps67
  go_wp2_with fail
  go_loopw [5, 13] (fun l k wr => AllHasRel w names kb f l k wr) (fun _ k _ => kb.length - numOf k)
  case atStart => exact H0.out
  case round =>
    clear H0
    obtain ⟨al, c, kk, rfl, hkk, rfl, hE, hown⟩ := hrel
    by_cases hlt : kk < kb.length
    · obtain ⟨x, hx⟩ : ∃ x, kb[kk]? = some x := ⟨kb[kk]'hlt, List.getElem?_eq_getElem hlt⟩
      have hx2 : (kb.map kptr)[kk]? = some (kptr x) := by rw [List.getElem?_map, hx]; rfl
      obtain ⟨g, cap', hkv, cg, fg, hg⟩ := row_cell HK.out hx2
      injection hkv with q1 q2 q3
      subst q1 q3
      have cgw : wr.cell? ⟨g, kk, none⟩ = some (kptr x) := (hE.cell (a := ⟨g, kk, none⟩) hg id).trans cg
      obtain ⟨s, hs⟩ : ∃ s, names[kk]? = some s := ⟨names[kk]'(by omega), List.getElem?_eq_getElem (by omega)⟩
      have hs2 : (names.map Value.string)[kk]? = some (.string s) := by rw [List.getElem?_map, hs]; rfl
      obtain ⟨gn, cn, rfl, dn, fn, hgn⟩ := row_cell HN.out hs2
      have d1 : ∀ W, Ext wr W → W.cell? ⟨p, 5, none⟩ = some (.slice (some ⟨gn, 0, none⟩) names.length cn) := fun W hW => (Fr.cell (hE.trans hW) (a := ⟨p, 5, none⟩) lp id).trans HC1.out
      have d2 : ∀ W, Ext wr W → W.cell? ⟨gn, kk, none⟩ = some (.string s) := fun W hW => (Fr.cell (hE.trans hW) (a := ⟨gn, kk, none⟩) hgn id).trans dn
      have D1 := hid d1
      have D2 := hid d2
      have hk1 : (kk : Int) < (kb.length : Int) := by omega
      have hk1n : (kk : Int) < (names.length : Int) := by omega
      have hk2 : decide ((kk : Int) < (kb.length : Int)) = true := by simp; omega
      have hk0 : (0 : Int) ≤ kk := by omega
      obtain ⟨k1, hk1'⟩ : ∃ k1, kk + 1 = k1 := ⟨_, rfl⟩
      have e1 : (kk : Int) + 1 = (k1 : Int) := by omega
      have hk1le : k1 ≤ kb.length := by omega
      have HE := hid hE
      have HO := hid hown
      have HK1 := hid hk1'
      have HS := hid hs
      have HX := hid hx
      clear cg fg hx hx2 hE hown hs hs2 dn fn d1 d2 hk1' hkk
      cases x with
      | none =>
        rw [show kptr none = .pointer none from rfl] at cgw
        go_wp2_with fail
        go_roundw
        case rel => exact ⟨al, c, k1, rfl, hk1le, by rw [← HK1.out, pickTo_none HX.out], HE.out, by rw [← HK1.out, pickTo_none HX.out]; exact HO.out⟩
        case measure => simp only [numOf]; omega
      | some b =>
        rw [show kptr (some b) = ptr b from rfl] at cgw
        cases hfk : f kk
        · have HFK := hid hfk
          clear hfk
          go_wp2_with (go_at_call 65; refine (HC.out _ kk HE.out (by omega)).mono ?_; rintro r w1 ⟨rfl, hE1⟩; rw [HFK.out]; have HE1 := hid hE1; clear hE1)
          go_roundw
          case rel => exact ⟨al, c, k1, rfl, hk1le, by rw [← HK1.out, pickTo_no HFK.out], HE.out.trans HE1.out, by rw [← HK1.out, pickTo_no HFK.out]; exact ownsRow_ext HO.out HE1.out⟩
          case measure => simp only [numOf]; omega
        · have HFK := hid hfk
          have hpl := pickTo_le names kb f kk
          have hmx : (pickTo names kb f kk).length + 1 ≤ maxLen := by unfold maxLen; omega
          have HMX := hid hmx
          have H47 : Hid (((pickTo names kb f kk).length + 1) * 16 ≤ 140737488355328) := hid (by omega)
          clear hfk hmx hpl
          go_wp2_with (first | (go_at_call 65; refine (HC.out _ kk HE.out (by omega)).mono ?_; rintro r w1 ⟨rfl, hE1⟩; rw [HFK.out]; have c1 := D1.out w1 hE1; have c2 := D2.out w1 hE1; have HE1 := hid hE1; clear hE1) | (at_builtin; refine wpList_append_lies _ rfl _ _ 34 rfl w.heap.size 9 i1 (.string ⟨#[]⟩) 1 16 Tryz.underlying34 hi1 hy1 hy2 hy3 rfl (by decide) _ (pickTo names kb f kk).length ((pickTo names kb f kk).map .string) rfl (ownsRow_ext HO.out (HE1.out.alloc _)) ⟨w1.heap.size, 0, none⟩ 1 1 [.string s] rfl rfl (one_new _ _ _ _ rfl) (by simp [Value.oneCell']) (by decide) HMX.out H47.out (by have := HE.out.size; have := HE1.out.size; simp; omega) (w1.heap.size + 1) (by simp) ?_; intro g3 cap3 w3 ho3 hg3 ha3 hl3; have HO3 := hid ho3; have HG3 := hid hg3; clear ho3 hg3 ha3))
          go_roundw
          case rel =>
            have e2 : pickTo names kb f k1 = pickTo names kb f kk ++ [s] := by rw [← HK1.out, pickTo_yes HX.out HFK.out HS.out]
            refine ⟨some ⟨g3, 0, none⟩, cap3, k1, rfl, hk1le, by rw [e2, List.length_append]; rfl, ?_, ?_⟩
            · refine ((HE.out.trans HE1.out).trans' ((Fr.of_grown HG3.out).of_alloc) ?_)
              intro b hb hq
              have := (World.ownsRow.lt HO.out b hq.symm).1
              omega
            · rw [e2, List.length_append, List.map_append]
              exact HO3.out
          case measure => simp only [numOf]; omega
    · have hk2 : decide ((kk : Int) < (kb.length : Int)) = false := by simp; omega
      have hke : kk = kb.length := by omega
      have HE := hid hE
      have HO := hid hown
      clear hE hown hkk
      go_wp2_with fail
      go_ret
      subst hke
      exact ⟨_, rfl, ⟨al, c, rfl⟩, HE.out, HO.out⟩
end Go.Proofs.YtnippamifihdpaaGreatDoor
namespace Go.Proofs.YtnippamifihdpaaGreatDoor
open Go Go.RowKit


def AllURel (w : World) (names : List ByteArray) (kb : List (Option Nat)) (f : Nat → Bool) (l k : Value) (wr : World) : Prop :=
  ∃ (ad : Option Addr) (c kk : Nat), k = .int .i64 kk ∧ kk ≤ kb.length ∧ l = .slice ad (pickTo names kb f kk).length c ∧ Ext w wr ∧ wr.ownsRow w.heap.size 9 1 l (pickTo names kb f kk).length ((pickTo names kb f kk).map .string)

set_option maxRecDepth 100000 in
set_option maxHeartbeats 8000000 in
theorem allU_any (w : World) (own : Own) (p : Nat) (mv nv kv : Value) (names : List ByteArray) (kb : List (Option Nat)) (f : Nat → Bool) 
    (h : RegAt w own false 109 mv nv kv names kb) (c1 : w.cell? ⟨p, 1, none⟩ = some nv) (c2 : w.cell? ⟨p, 2, none⟩ = some kv)
    (hcall : ∀ W i, Ext w W → i < names.length → Calls Tryz.prog 77 #[.int .i64 (i : Nat)] W fun e w' => e = .returned (.bool (f i)) ∧ Ext W w') :
    Calls Tryz.prog 76 #[.pointer (some ⟨p, 0, none⟩), .func (.func 77) #[] #[]] w fun e w' => ∃ l, e = .returned l ∧ NameList w w' l (pickTo names kb f kb.length) := by
  obtain ⟨i1, hi1, hy1, hy2, hy3⟩ := info_parts infoSU
  have hle := h.le
  have hlen := h.len
  obtain ⟨ad, cap, hkv⟩ := row_form h.k
  subst hkv
  have hn := h.n
  have hk := h.k
  have lp := World.block_lt_of_cell? w _ c1
  have H0 : Hid (AllURel w names kb f (.slice none 0 0) (.int .i64 ((0 : Nat) : Int)) w) := hid ⟨none, 0, 0, rfl, Nat.zero_le _, rfl, Fr.refl _ _, World.ownsRow_nil _ _ _ _⟩
  have HN := hid hn
  have HK := hid hk
  have HC := hid hcall
  have HC1 := hid c1
  clear h hn hk hcall
  go_enter Tryz.func76, Tryz.ntmps76
  go_wp2_with fail
  go_loopw [5, 13] (fun l k wr => AllURel w names kb f l k wr) (fun _ k _ => kb.length - numOf k)
  case atStart => exact H0.out
  case round =>
    clear H0
    obtain ⟨al, c, kk, rfl, hkk, rfl, hE, hown⟩ := hrel
    by_cases hlt : kk < kb.length
    · obtain ⟨x, hx⟩ : ∃ x, kb[kk]? = some x := ⟨kb[kk]'hlt, List.getElem?_eq_getElem hlt⟩
      have hx2 : (kb.map kptr)[kk]? = some (kptr x) := by rw [List.getElem?_map, hx]; rfl
      obtain ⟨g, cap', hkv, cg, fg, hg⟩ := row_cell HK.out hx2
      injection hkv with q1 q2 q3
      subst q1 q3
      have cgw : wr.cell? ⟨g, kk, none⟩ = some (kptr x) := (hE.cell (a := ⟨g, kk, none⟩) hg id).trans cg
      obtain ⟨s, hs⟩ : ∃ s, names[kk]? = some s := ⟨names[kk]'(by omega), List.getElem?_eq_getElem (by omega)⟩
      have hs2 : (names.map Value.string)[kk]? = some (.string s) := by rw [List.getElem?_map, hs]; rfl
      obtain ⟨gn, cn, rfl, dn, fn, hgn⟩ := row_cell HN.out hs2
      have d1 : ∀ W, Ext wr W → W.cell? ⟨p, 1, none⟩ = some (.slice (some ⟨gn, 0, none⟩) names.length cn) := fun W hW => (Fr.cell (hE.trans hW) (a := ⟨p, 1, none⟩) lp id).trans HC1.out
      have d2 : ∀ W, Ext wr W → W.cell? ⟨gn, kk, none⟩ = some (.string s) := fun W hW => (Fr.cell (hE.trans hW) (a := ⟨gn, kk, none⟩) hgn id).trans dn
      have D1 := hid d1
      have D2 := hid d2
      have hk1 : (kk : Int) < (kb.length : Int) := by omega
      have hk1n : (kk : Int) < (names.length : Int) := by omega
      have hk2 : decide ((kk : Int) < (kb.length : Int)) = true := by simp; omega
      have hk0 : (0 : Int) ≤ kk := by omega
      obtain ⟨k1, hk1'⟩ : ∃ k1, kk + 1 = k1 := ⟨_, rfl⟩
      have e1 : (kk : Int) + 1 = (k1 : Int) := by omega
      have hk1le : k1 ≤ kb.length := by omega
      have HE := hid hE
      have HO := hid hown
      have HK1 := hid hk1'
      have HS := hid hs
      have HX := hid hx
      clear cg fg hx hx2 hE hown hs hs2 dn fn d1 d2 hk1' hkk
      cases x with
      | none =>
        rw [show kptr none = .pointer none from rfl] at cgw
        go_wp2_with fail
        go_roundw
        case rel => exact ⟨al, c, k1, rfl, hk1le, by rw [← HK1.out, pickTo_none HX.out], HE.out, by rw [← HK1.out, pickTo_none HX.out]; exact HO.out⟩
        case measure => simp only [numOf]; omega
      | some b =>
        rw [show kptr (some b) = ptr b from rfl] at cgw
        cases hfk : f kk
        · have HFK := hid hfk
          clear hfk
          go_wp2_with (go_at_call 77; refine (HC.out _ kk HE.out (by omega)).mono ?_; rintro r w1 ⟨rfl, hE1⟩; rw [HFK.out]; have HE1 := hid hE1; clear hE1)
          go_roundw
          case rel => exact ⟨al, c, k1, rfl, hk1le, by rw [← HK1.out, pickTo_no HFK.out], HE.out.trans HE1.out, by rw [← HK1.out, pickTo_no HFK.out]; exact ownsRow_ext HO.out HE1.out⟩
          case measure => simp only [numOf]; omega
        · have HFK := hid hfk
          have hpl := pickTo_le names kb f kk
          have hmx : (pickTo names kb f kk).length + 1 ≤ maxLen := by unfold maxLen; omega
          have HMX := hid hmx
          have H47 : Hid (((pickTo names kb f kk).length + 1) * 16 ≤ 140737488355328) := hid (by omega)
          clear hfk hmx hpl
          go_wp2_with (first | (go_at_call 77; refine (HC.out _ kk HE.out (by omega)).mono ?_; rintro r w1 ⟨rfl, hE1⟩; rw [HFK.out]; have c1 := D1.out w1 hE1; have c2 := D2.out w1 hE1; have HE1 := hid hE1; clear hE1) | (at_builtin; refine wpList_append_lies _ rfl _ _ 34 rfl w.heap.size 9 i1 (.string ⟨#[]⟩) 1 16 Tryz.underlying34 hi1 hy1 hy2 hy3 rfl (by decide) _ (pickTo names kb f kk).length ((pickTo names kb f kk).map .string) rfl (ownsRow_ext HO.out (HE1.out.alloc _)) ⟨w1.heap.size, 0, none⟩ 1 1 [.string s] rfl rfl (one_new _ _ _ _ rfl) (by simp [Value.oneCell']) (by decide) HMX.out H47.out (by have := HE.out.size; have := HE1.out.size; simp; omega) (w1.heap.size + 1) (by simp) ?_; intro g3 cap3 w3 ho3 hg3 ha3 hl3; have HO3 := hid ho3; have HG3 := hid hg3; clear ho3 hg3 ha3))
          go_roundw
          case rel =>
            have e2 : pickTo names kb f k1 = pickTo names kb f kk ++ [s] := by rw [← HK1.out, pickTo_yes HX.out HFK.out HS.out]
            refine ⟨some ⟨g3, 0, none⟩, cap3, k1, rfl, hk1le, by rw [e2, List.length_append]; rfl, ?_, ?_⟩
            · refine ((HE.out.trans HE1.out).trans' ((Fr.of_grown HG3.out).of_alloc) ?_)
              intro b hb hq
              have := (World.ownsRow.lt HO.out b hq.symm).1
              omega
            · rw [e2, List.length_append, List.map_append]
              exact HO3.out
          case measure => simp only [numOf]; omega
    · have hk2 : decide ((kk : Int) < (kb.length : Int)) = false := by simp; omega
      have hke : kk = kb.length := by omega
      have HE := hid hE
      have HO := hid hown
      clear hE hown hkk
      go_wp2_with fail
      go_ret
      subst hke
      exact ⟨_, rfl, ⟨al, c, rfl⟩, HE.out, HO.out⟩
end Go.Proofs.YtnippamifihdpaaGreatDoor
