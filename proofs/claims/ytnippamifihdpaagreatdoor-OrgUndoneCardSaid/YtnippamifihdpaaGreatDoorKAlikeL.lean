/- law09.loans: two equal lists of loans; then law09.alike and law09.same of two organisations that tell the same. -/
import Derived.Test.YtnippamifihdpaaGreatDoorKAlike
import Derived.Test.YtnippamifihdpaaGreatDoorKOrgLoans
namespace Go.Proofs.YtnippamifihdpaaGreatDoor
open Go Go.RowKit
set_option linter.unusedVariables false

/-- A list of loans. -/
def LoanList (names : List ByteArray) (es : List Ent) (w : World) (l : Value) : Prop := ∃ ad c, l = .slice ad es.length c ∧ w.ownsRow 0 46 3 l es.length (es.flatMap (loanCells names))
theorem LoanList.ext {names : List ByteArray} {es : List Ent} {w w' : World} {l : Value} (h : LoanList names es w l) (k : Ext w w') : LoanList names es w' l := by
  obtain ⟨ad, c, rfl, h⟩ := h
  exact ⟨ad, c, rfl, ownsRow_ext h k⟩

theorem flat3 (f : Ent → List Value) (hf : ∀ e, (f e).length = 3) (xs : List Ent) (i c : Nat) (hc : c < 3) : (xs.flatMap f)[i * 3 + c]? = xs[i]?.bind fun x => (f x)[c]? := by
  induction xs generalizing i with
  | nil => simp
  | cons x xs ih =>
    rw [List.flatMap_cons]
    have hl := hf x
    cases i with
    | zero => rw [List.getElem?_append_left (by omega)]; simp
    | succ i =>
      rw [List.getElem?_append_right (by omega), hl, show (i + 1) * 3 + c - 3 = i * 3 + c by omega, ih]
      simp

theorem loan_cell {names : List ByteArray} {es : List Ent} {w : World} {n cap : Nat} {ad : Option Addr} (hn : es.length = n) (h : w.ownsRow 0 46 3 (.slice ad n cap) n (es.flatMap (loanCells names))) {k : Nat} {e : Ent} (hs : es[k]? = some e) :
    ∃ g x1 x2, ad = some ⟨g, 0, none⟩ ∧ w.cell? ⟨g, k * 3, none⟩ = some (.string x1) ∧ w.cell? ⟨g, k * 3 + 1, none⟩ = some (.string x2) ∧ w.cell? ⟨g, k * 3 + 2, none⟩ = some (.int .i64 e.at_) ∧ loanCells names e = [.string x1, .string x2, .int .i64 e.at_] := by
  have hk := (List.getElem?_eq_some_iff.1 hs).1
  have f := flat3 (loanCells names) (fun _ => rfl) es k
  rcases h.2 with ⟨hv, h0⟩ | ⟨g, cap', cur, hv, hb, hg, hc2, hm, hsz, ht⟩
  · omega
  · injection hv with q1 q2 q3
    have hc : ∀ c, c < 3 → w.cell? ⟨g, k * 3 + c, none⟩ = (loanCells names e)[c]? := fun c hc => by
      rw [Blk.cell hg, ← Array.getElem?_toList]
      have : (cur.toList.take (n * 3))[k * 3 + c]? = cur.toList[k * 3 + c]? := by rw [List.getElem?_take, if_pos (by omega)]
      rw [← this, ht, f c hc, hs]
      rfl
    exact ⟨g, _, _, q1, hc 0 (by omega), hc 1 (by omega), hc 2 (by omega), rfl⟩

set_option maxHeartbeats 4000000 in
theorem loans_same (names : List ByteArray) (es : List Ent) (w : World) (l1 l2 : Value) (hlen : es.length ≤ 60000) (h1 : LoanList names es w l1) (h2 : LoanList names es w l2) :
    Calls Tryz.prog 93 #[l1, l2] w fun e w' => e = .returned (.bool true) ∧ Ext w w' := by
  obtain ⟨a1, c1, rfl, h1⟩ := h1
  obtain ⟨a2, c2, rfl, h2⟩ := h2
  obtain ⟨n, hn⟩ : ∃ n, es.length = n := ⟨_, rfl⟩
  rw [hn] at h1 h2 hlen ⊢
  have HL := hid hn
  have HA := hid h1
  have HB := hid h2
  have H0 : Hid (SameRel w n (.int .i64 ((0 : Nat) : Int)) w) := hid ⟨0, rfl, Nat.zero_le _, Ext.refl w⟩
  clear h1 h2 hn
  go_enter Tryz.func93, Tryz.ntmps93
  go_wp2_with fail
  go_loopw [5] (fun i wr => SameRel w n i wr) (fun i _ => n - numOf i)
  case atStart => exact H0.out
  case round =>
    clear H0
    obtain ⟨k, rfl, hk, hE⟩ := hrel
    by_cases hlt : k < n
    · obtain ⟨e, hs⟩ : ∃ e, es[k]? = some e := ⟨es[k]'(by rw [HL.out]; exact hlt), List.getElem?_eq_getElem (by rw [HL.out]; exact hlt)⟩
      obtain ⟨g1, x1, x2, rfl, d1, d2, d3, hx⟩ := loan_cell HL.out (ownsRow_ext HA.out hE) hs
      obtain ⟨g2, y1, y2, rfl, e1, e2, e3, hy⟩ := loan_cell HL.out (ownsRow_ext HB.out hE) hs
      rw [hx] at hy
      injection hy with t1 hy
      injection t1 with t1
      injection hy with t2 hy
      injection t2 with t2
      subst t1 t2
      have hk1 : (k : Int) < (n : Int) := by omega
      have hk2 : decide ((k : Int) < (n : Int)) = true := by simp; omega
      have hk0 : (0 : Int) ≤ k := by omega
      obtain ⟨k1, hk1'⟩ : ∃ k1, k + 1 = k1 := ⟨_, rfl⟩
      have ek : (k : Int) + 1 = (k1 : Int) := by omega
      have hk1le : k1 ≤ n := by omega
      obtain ⟨t, ht⟩ : ∃ t, e.at_ = t := ⟨_, rfl⟩
      rw [ht] at d3 e3
      have HE := hid hE
      clear hs hk1' hk hE hx hy ht
      go_wp2_with fail
      go_quiet (fail)
      go_wp2_with fail
      go_roundw
      case rel => exact ⟨k1, rfl, hk1le, HE.out.drewN _⟩
      case measure => simp only [numOf]; omega
    · have hk2 : decide ((k : Int) < (n : Int)) = false := by simp; omega
      have HE := hid hE
      clear hk hE
      go_wp2_with fail
      go_ret
      exact ⟨rfl, HE.out⟩

theorem OrgAt.loanList {w : World} {own : Own} {p : Nat} {S : OrgS} {m : Nat} (h : OrgAt w own p S) (hi : S.Inv m) (hm : m ≤ 60000) (W : World) (hW : Ext w W) :
    Calls Tryz.prog 31 #[ptr p] W fun e w' => ∃ l, e = .returned l ∧ Ext W w' ∧ LoanList S.un S.es w' l :=
  ((h.ext hW).loans_any hi hm).mono fun e w' ⟨l, he, hE, ho⟩ => by
    refine ⟨l, he, hE, ?_⟩
    have ho' : w'.ownsRow 0 46 3 l S.es.length (S.es.flatMap (loanCells S.un)) := ⟨ho.1, ho.2.imp id fun ⟨g, cap, cur, a, _, r⟩ => ⟨g, cap, cur, a, Nat.zero_le _, r⟩⟩
    rcases ho'.2 with ⟨hv, h0⟩ | ⟨g, cap, cur, hv, _⟩
    · exact ⟨none, 0, by rw [hv, h0], ho'⟩
    · exact ⟨_, _, hv, ho'⟩

section
variable {w0 w : World} {p q m n : Nat} {S T : OrgS}
theorem Org2.loansL (h : Org2 w0 w p S m q T n) (hm : m ≤ 60000) (W : World) (hW : Ext w W) :
    Calls Tryz.prog 31 #[ptr p] W fun e w' => ∃ l, e = .returned l ∧ Ext W w' ∧ LoanList S.un S.es w' l := by
  obtain ⟨o1, h1, h2, _, _⟩ := h.left
  exact h1.loanList h2 hm W hW
theorem Org2.loansR (h : Org2 w0 w p S m q T n) (hn : n ≤ 60000) (he : TellSame S T) (W : World) (hW : Ext w W) :
    Calls Tryz.prog 31 #[ptr q] W fun e w' => ∃ l, e = .returned l ∧ Ext W w' ∧ LoanList S.un S.es w' l := by
  obtain ⟨o1, h1, h2, _, _⟩ := h.right
  have := h1.loanList h2 hn W hW
  rw [he.un, he.es] at this
  exact this
theorem same_any (h : Org2 w0 w p S m q T n) (hm : m ≤ 60000) (hn : n ≤ 60000) (he : TellSame S T) :
    Calls Tryz.prog 39 #[ptr p, ptr q] w fun e w' => e = .returned (.bool true) ∧ Ext w w' :=
  same_true h hm hn he (LoanList S.un S.es) (h.loansL hm) (h.loansR hn he) (fun W l1 l2 h1 h2 => loans_same S.un S.es W l1 l2 (Nat.le_trans h.inv1.es hm) h1 h2) fun _ _ _ k h => h.ext k
theorem alike_any (h : Org2 w0 w p S m q T n) (hm : m ≤ 60000) (hn : n ≤ 60000) (he : TellSame S T) (hep : T.ep = S.ep) :
    Calls Tryz.prog 38 #[ptr p, ptr q] w fun e w' => e = .returned (.bool true) ∧ Ext w w' :=
  alike_true h hm hn he hep (LoanList S.un S.es) (h.loansL hm) (h.loansR hn he) (fun W l1 l2 h1 h2 => loans_same S.un S.es W l1 l2 (Nat.le_trans h.inv1.es hm) h1 h2) fun _ _ _ k h => h.ext k
end
end Go.Proofs.YtnippamifihdpaaGreatDoor
