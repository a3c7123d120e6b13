/- org over a handle: Epoch, Size, Users, Roles, Juniors, Held. provostkeep.Texts of two lists that are the same. Two organisations in new memory, apart from one another (printed by gen_org2.py). law09.alike: a round over the users. -/
import Derived.Test.YtnippamifihdpaaGreatDoorKLawC
import Derived.Test.YtnippamifihdpaaGreatDoorKLoans
import Derived.Deep.RegionHeld3
namespace Go.Proofs.YtnippamifihdpaaGreatDoor
open Go Go.RowKit
set_option linter.unusedVariables false

section
variable {w : World} {own : Own} {p : Nat} {S : OrgS}
theorem epoch_any (h : OrgAt w own p S) : Calls Tryz.prog 36 #[ptr p] w fun e w' => e = .returned (.int .u64 S.ep) ∧ w = w' := by
  obtain ⟨mU, nU, kU, mR, nR, kR, br, pa, ub, rb, D, g⟩ := h
  have d := (g.blk.cell 11).trans rfl
  clear g
  go_enter Tryz.func36, Tryz.ntmps36
  go_wp2_with fail
  go_ret
  exact ⟨rfl, rfl⟩
theorem size_any (h : OrgAt w own p S) : Calls Tryz.prog 92 #[ptr p] w fun e w' => e = .returned (.int .i64 S.un.length) ∧ w = w' := by
  obtain ⟨mU, nU, kU, mR, nR, kR, br, pa, ub, rb, D, g⟩ := h
  obtain ⟨ad, cap, hn⟩ := row_form g.ru.n
  have d : w.cell? ⟨p, 1, none⟩ = some (.slice ad S.un.length cap) := (show w.cell? ⟨p, 1, none⟩ = some nU from g.blk.cell 1).trans (congrArg some hn)
  clear g hn
  go_enter Tryz.func92, Tryz.ntmps92
  go_wp2_with fail
  go_ret
  exact ⟨rfl, rfl⟩
/-- The known users, the known roles. -/
def OrgS.users (S : OrgS) : List ByteArray := pickS S.un S.uk fun _ => true
def OrgS.roles (S : OrgS) : List ByteArray := pickS S.rn S.rk fun _ => true
theorem users_any (h : OrgAt w own p S) : Calls Tryz.prog 30 #[ptr p] w fun e w' => ∃ l, e = .returned l ∧ NameList w w' l S.users := by
  obtain ⟨mU, nU, kU, mR, nR, kR, br, pa, ub, rb, D, g⟩ := h
  have := g.users
  rw [pick_items g.us] at this
  exact this
theorem roles_any (h : OrgAt w own p S) : Calls Tryz.prog 40 #[ptr p] w fun e w' => ∃ l, e = .returned l ∧ NameList w w' l S.roles := by
  obtain ⟨mU, nU, kU, mR, nR, kR, br, pa, ub, rb, D, g⟩ := h
  have := g.roles
  rw [pick_items g.rs] at this
  exact this
end

/-- The roles right below a role. -/
def OrgS.juniors (S : OrgS) (a : ByteArray) : List ByteArray := match S.findR a with | some (i, _) => pickS S.rn S.rk fun k => (S.J i).testBit k | none => []
set_option maxHeartbeats 2000000 in
theorem junior_any (w : World) (bp bi p br i k : Nat) (J : Nat → Nat) (cp : w.cell? ⟨bp, 0, none⟩ = some (ptr p)) (ci : w.cell? ⟨bi, 0, none⟩ = some (.int .i64 i)) (c8 : w.cell? ⟨p, 8, none⟩ = some (ptr br)) (hR : RankAt w br J) (hi : i < 64) (hk : k < 64) :
    Calls Tryz.prog 95 #[.int .i64 k, ptr bp, ptr bi] w fun e w' => e = .returned (.bool ((J i).testBit k)) ∧ Ext w w' := by
  have HR := hid hR
  clear hR
  go_enter Tryz.func95, Tryz.ntmps95
  go_wp2_with fail
  go_region_with ((go_at_call 96; refine (rankHas_any br i k J _ ?_ hi hk).mono ?_; (exact HR.out.fr (S := fun _ => False) ((Fr.refl _ w).drew) id); rintro r w1 ⟨rfl, hE⟩; have HE := hid hE; clear hE))
  all_goals go_wp2_with fail
  all_goals go_ret
  all_goals exact ⟨rfl, HE.out.of_drew⟩
set_option maxHeartbeats 2000000 in
theorem juniors_hit (w : World) (p i b : Nat) (a : ByteArray) (xs : List ByteArray) (hm : ∀ W, Ext w W → Calls Tryz.prog 62 #[ptr p, .string a] W fun e w' => e = .returned (.tuple #[.int .i64 i, ptr b, .int .i64 0]) ∧ Ext W w')
    (hall : ∀ W q1 q2, Ext w W → W.cell? ⟨q1, 0, none⟩ = some (ptr p) → W.cell? ⟨q2, 0, none⟩ = some (.int .i64 i) → Calls Tryz.prog 67 #[.pointer (some ⟨p, 4, none⟩), .func (.func 95) #[] #[ptr q1, ptr q2]] W fun e w' => ∃ l, e = .returned l ∧ NameList W w' l xs) :
    Calls Tryz.prog 42 #[ptr p, .string a] w fun e w' => ∃ l, e = .returned l ∧ NameList w w' l xs := by
  have HM := hid hm
  have HA := hid hall
  clear hm hall
  go_enter Tryz.func42, Tryz.ntmps42
  go_wp2_with fail
  refine (HM.out _ ((Ext.refl w).alloc _)).mono ?_
  rintro r w1 ⟨rfl, hE⟩
  have hc0 : w1.cell? ⟨w.heap.size, 0, none⟩ = some (ptr p) := (hE.cell (a := ⟨w.heap.size, 0, none⟩) (by simp) id).trans (by simp)
  have hsz : w.heap.size < w1.heap.size := by have := hE.size; simp at this; omega
  have HE := hid hE
  clear hE
  go_wp2_with fail
  refine (HA.out _ _ _ (HE.out.of_alloc.alloc _) ?_ ?_).mono ?_
  · exact (Fr.cell ((Ext.refl w1).alloc _) (a := ⟨w.heap.size, 0, none⟩) hsz id).trans hc0
  · simp
  · rintro r w2 ⟨l, rfl, hL⟩
    have HL := hid hL
    clear hL
    go_wp2_with fail
    go_ret
    exact ⟨_, rfl, HL.out.behind (HE.out.of_alloc.alloc _)⟩
set_option maxHeartbeats 2000000 in
theorem juniors_miss (w : World) (p : Nat) (a : ByteArray) (hm : ∀ W, Ext w W → Calls Tryz.prog 62 #[ptr p, .string a] W fun e w' => ∃ b, e = .returned (.tuple #[.int .i64 0, ptr b, .int .i64 21]) ∧ Blk w' b #[.map none] 113 ∧ Ext W w' ∧ W.heap.size ≤ b) :
    Calls Tryz.prog 42 #[ptr p, .string a] w fun e w' => ∃ l, e = .returned l ∧ NameList w w' l [] := by
  have HM := hid hm
  clear hm
  go_enter Tryz.func42, Tryz.ntmps42
  go_wp2_with fail
  refine (HM.out _ ((Ext.refl w).alloc _)).mono ?_
  rintro r w1 ⟨b, rfl, hb, hE, hbl⟩
  have HE := hid hE
  clear hE hb
  go_wp2_with fail
  go_ret
  exact ⟨_, rfl, NameList.empty (HE.out.of_alloc.alloc _)⟩
theorem juniors_any {w : World} {own : Own} {p : Nat} {S : OrgS} (a : ByteArray) (h : OrgAt w own p S) : Calls Tryz.prog 42 #[ptr p, .string a] w fun e w' => ∃ l, e = .returned l ∧ NameList w w' l (S.juniors a) := by
  obtain ⟨mU, nU, kU, mR, nR, kR, br, pa, ub, rb, D, g⟩ := h
  unfold OrgS.juniors
  rcases g.findR a with ⟨i, b, u, h1, h2, hu, hrb, hrk, hi⟩ | ⟨h1, h2⟩
  · rw [h2]
    dsimp only
    rw [← pick_items g.rs]
    refine juniors_hit w p i b a _ (fun W hW => (g.ext hW).role_hit h1) fun W q1 q2 hW c1 c2 => ?_
    have gW := g.ext hW
    refine allJ_any W own p mR nR kR S.rn rb (fun k => (S.J i).testBit k) q1 q2 gW.rr ((gW.blk.cell 5).trans rfl) ((gW.blk.cell 6).trans rfl) fun W2 k hE hk => ?_
    have gW2 := gW.ext hE
    exact junior_any W2 q1 q2 p br i k S.J ((hE.cell (a := ⟨q1, 0, none⟩) (World.block_lt_of_cell? W _ c1) id).trans c1) ((hE.cell (a := ⟨q2, 0, none⟩) (World.block_lt_of_cell? W _ c2) id).trans c2) ((gW2.blk.cell 8).trans rfl) gW2.rk hi (Nat.lt_of_lt_of_le hk gW2.rr.le)
  · rw [h2]
    exact juniors_miss w p a fun W hW => (g.ext hW).role_miss h1

/-- The roles that a user has. -/
noncomputable def OrgS.held (S : OrgS) (a : ByteArray) : List ByteArray := match S.findU a with | some (i, _) => pickS S.rn S.rk fun k => (S.has i).testBit k | none => []
set_option maxHeartbeats 4000000 in
theorem held_hit (w : World) (p i b x : Nat) (a : ByteArray) (xs : List ByteArray)
    (hm : Calls Tryz.prog 79 #[.pointer (some ⟨p, 0, none⟩), .string a] w fun e w' => e = .returned (.tuple #[.int .i64 i, ptr b]) ∧ Ext w w')
    (hh : ∀ W, Ext w W → Calls Tryz.prog 80 #[ptr p, .int .i64 i] W fun e w' => e = .returned (.int .u64 x) ∧ Ext W w')
    (hall : ∀ W, Ext w W → Calls Tryz.prog 67 #[.pointer (some ⟨p, 4, none⟩), .func (.func 65) #[.agg #[.int .u64 (x : Nat)]] #[]] W fun e w' => ∃ l, e = .returned l ∧ NameList W w' l xs) :
    Calls Tryz.prog 33 #[ptr p, .string a] w fun e w' => ∃ l, e = .returned l ∧ NameList w w' l xs := by
  have HH := hid hh
  have HA := hid hall
  clear hh hall
  go_enter Tryz.func33, Tryz.ntmps33
  go_wp2_with (go_at_call 79; refine hm.mono ?_; rintro q w1 ⟨rfl, hE⟩; have HE := hid hE; clear hE)
  go_region_with (first | (go_at_call 80; refine (HH.out _ HE.out.drew).mono ?_; rintro q w2 ⟨rfl, hE2⟩; have HE2 := hid hE2; clear hE2) | (go_at_call 64; refine (set_any x _).mono ?_; rintro q w3 ⟨rfl, hE3⟩; have HE3 := hid hE3; clear hE3) | (go_at_call 67; refine (HA.out _ (((HE.out.drew).trans HE2.out).trans HE3.out)).mono ?_; rintro q w4 ⟨l, rfl, hL⟩; have HL := hid hL; clear hL))
  all_goals go_wp2_with fail
  all_goals go_ret
  all_goals exact ⟨_, rfl, HL.out.behind (((HE.out.drew).trans HE2.out).trans HE3.out)⟩
set_option maxHeartbeats 4000000 in
theorem held_miss (w : World) (p : Nat) (a : ByteArray) (hm : Calls Tryz.prog 79 #[.pointer (some ⟨p, 0, none⟩), .string a] w fun e w' => e = .returned (.tuple #[.int .i64 0, .pointer none]) ∧ Ext w w') :
    Calls Tryz.prog 33 #[ptr p, .string a] w fun e w' => ∃ l, e = .returned l ∧ NameList w w' l [] := by
  go_enter Tryz.func33, Tryz.ntmps33
  go_wp2_with (go_at_call 79; refine hm.mono ?_; rintro q w1 ⟨rfl, hE⟩; have HE := hid hE; clear hE)
  go_ret
  exact ⟨_, rfl, NameList.empty HE.out⟩
theorem held_any {w : World} {own : Own} {p : Nat} {S : OrgS} (a : ByteArray) (h : OrgAt w own p S) (hlent : ∀ i k, i < 64 → lentB S k i = true → ∃ v, S.uk[k]? = some (some v)) :
    Calls Tryz.prog 33 #[ptr p, .string a] w fun e w' => ∃ l, e = .returned l ∧ NameList w w' l (S.held a) := by
  obtain ⟨mU, nU, kU, mR, nR, kR, br, pa, ub, rb, D, g⟩ := h
  have hg := g.getU a
  unfold OrgS.held
  rcases g.findU a with ⟨i, b, u, h1, h2, hu, hub, huk, hi⟩ | ⟨h1, h2⟩
  · rw [h2]
    rw [h1] at hg
    dsimp only [getV] at hg ⊢
    rw [← pick_items g.rs]
    exact held_hit w p i b (S.has i) a _ hg (fun W hW => has_walk (g.ext hW) i b u hi hub huk (fun k => hlent i k hi)) fun W hW => g.allR_has (S.has i) (lentTo_lt S i _) W hW
  · rw [h2]
    rw [h1] at hg
    dsimp only [getV] at hg ⊢
    exact held_miss w p a hg
end Go.Proofs.YtnippamifihdpaaGreatDoor
namespace Go.Proofs.YtnippamifihdpaaGreatDoor
open Go Go.RowKit
set_option linter.unusedVariables false

/-- The cells of a list of names. -/
theorem list_cell {w : World} {base n cap : Nat} {ad : Option Addr} {xs : List ByteArray} (hown : w.ownsRow base 9 1 (.slice ad n cap) n (xs.map .string)) {k : Nat} {s : ByteArray} (hs : xs[k]? = some s) : ∃ g, ad = some ⟨g, 0, none⟩ ∧ w.cell? ⟨g, k, none⟩ = some (.string s) := by
  have hs2 : (xs.map Value.string)[k]? = some (.string s) := by rw [List.getElem?_map, hs]; rfl
  rcases hown.2 with ⟨hv, hn⟩ | ⟨g, cap', cur, hv, hb, hg, hc2, hm, hsz, ht⟩
  · exfalso
    have h1 := hown.1
    have : xs.map Value.string = [] := List.eq_nil_of_length_eq_zero (by omega)
    rw [this] at hs2
    simp at hs2
  · injection hv with q1 q2 q3
    refine ⟨g, q1, ?_⟩
    rw [Blk.cell hg k, ← Array.getElem?_toList]
    rw [← ht, List.getElem?_take] at hs2
    split at hs2
    · exact hs2
    · cases hs2
def SameRel (w : World) (n : Nat) (i : Value) (wr : World) : Prop := ∃ k : Nat, i = .int .i64 k ∧ k ≤ n ∧ Ext w wr
set_option maxHeartbeats 4000000 in
theorem texts_same (w : World) (b1 b2 c1 c2 n : Nat) (a1 a2 : Option Addr) (xs : List ByteArray) (hn : xs.length = n) (hlen : n ≤ 1000000) (h1 : w.ownsRow b1 9 1 (.slice a1 n c1) n (xs.map .string)) (h2 : w.ownsRow b2 9 1 (.slice a2 n c2) n (xs.map .string)) :
    Calls Tryz.prog 57 #[.slice a1 n c1, .slice a2 n c2] w fun e w' => e = .returned (.bool true) ∧ Ext w w' := by
  have HL := hid hn
  have HA := hid h1
  have HB := hid h2
  have H0 : Hid (SameRel w n (.int .i64 ((0 : Nat) : Int)) w) := hid ⟨0, rfl, Nat.zero_le _, Ext.refl w⟩
  clear h1 h2 hn
  go_enter Tryz.func57, Tryz.ntmps57
  go_wp2_with fail
  go_loopw [5] (fun i wr => SameRel w n i wr) (fun i _ => n - numOf i)
  case atStart => exact H0.out
  case round =>
    clear H0
    obtain ⟨k, rfl, hk, hE⟩ := hrel
    by_cases hlt : k < n
    · obtain ⟨s, hs⟩ : ∃ s, xs[k]? = some s := ⟨xs[k]'(by rw [HL.out]; exact hlt), List.getElem?_eq_getElem (by rw [HL.out]; exact hlt)⟩
      obtain ⟨g1, rfl, d1⟩ := list_cell (ownsRow_ext HA.out hE) hs
      obtain ⟨g2, rfl, d2⟩ := list_cell (ownsRow_ext HB.out hE) hs
      have hk1 : (k : Int) < (n : Int) := by omega
      have hk2 : decide ((k : Int) < (n : Int)) = true := by simp; omega
      have hk0 : (0 : Int) ≤ k := by omega
      obtain ⟨k1, hk1'⟩ : ∃ k1, k + 1 = k1 := ⟨_, rfl⟩
      have e1 : (k : Int) + 1 = (k1 : Int) := by omega
      have hk1le : k1 ≤ n := by omega
      have HE := hid hE
      clear hs hk1' hk hE
      go_wp2_with fail
      go_quiet (fail)
      go_wp2_with fail
      go_roundw
      case rel => exact ⟨k1, rfl, hk1le, HE.out.drewN _⟩
      case measure => simp only [numOf]; omega
    · have hk2 : decide ((k : Int) < (n : Int)) = false := by simp; omega
      have HE := hid hE
      clear hk hE
      go_wp2_with fail
      go_ret
      exact ⟨rfl, HE.out⟩
end Go.Proofs.YtnippamifihdpaaGreatDoor
namespace Go.Proofs.YtnippamifihdpaaGreatDoor
open Go Go.RowKit
set_option linter.unusedVariables false

def Org2 (w0 w : World) (p : Nat) (S : OrgS) (m q : Nat) (T : OrgS) (n : Nat) : Prop :=
  ∃ o1 o2, OrgAt w o1 p S ∧ OrgAt w o2 q T ∧ S.Inv m ∧ T.Inv n ∧ Ext w0 w ∧ (∀ c t, o1 c = some t → w0.heap.size ≤ c) ∧ (∀ c t, o2 c = some t → w0.heap.size ≤ c) ∧ ∀ c t, o1 c = some t → o2 c = none
section
variable {w0 w w' : World} {p q : Nat} {S T S' T' : OrgS} {m n m' n' : Nat}
theorem Org2.symm (h : Org2 w0 w p S m q T n) : Org2 w0 w q T n p S m := by
  obtain ⟨o1, o2, h1, h2, h3, h4, h5, h6, h7, h8⟩ := h
  refine ⟨o2, o1, h2, h1, h4, h3, h5, h7, h6, fun c t hc => ?_⟩
  cases hq : o1 c with
  | none => rfl
  | some u => rw [h8 c u hq] at hc; cases hc
theorem Org2.ext (h : Org2 w0 w p S m q T n) (k : Ext w w') : Org2 w0 w' p S m q T n := by
  obtain ⟨o1, o2, h1, h2, h3, h4, h5, h6, h7, h8⟩ := h
  exact ⟨o1, o2, h1.ext k, h2.ext k, h3, h4, h5.trans k, h6, h7, h8⟩
theorem Org2.old (h : Org2 w0 w p S m q T n) : Ext w0 w := by
  obtain ⟨o1, o2, h1, h2, h3, h4, h5, h6, h7, h8⟩ := h
  exact h5
theorem Org2.inv1 (h : Org2 w0 w p S m q T n) : S.Inv m := by
  obtain ⟨o1, o2, h1, h2, h3, h4, h5, h6, h7, h8⟩ := h
  exact h3
theorem Org2.inv2 (h : Org2 w0 w p S m q T n) : T.Inv n := h.symm.inv1
theorem OrgAt.lt {own : Own} (h : OrgAt w own p S) : ∀ c t, own c = some t → c < w.heap.size := by
  obtain ⟨mU, nU, kU, mR, nR, kR, br, pa, ub, rb, D, g⟩ := h
  exact g.lt
theorem OrgAt.otab {own : Own} (h : OrgAt w own p S) : own 6 = none := by
  obtain ⟨mU, nU, kU, mR, nR, kR, br, pa, ub, rb, D, g⟩ := h
  exact g.otab
/-- The first one taken by itself. -/
theorem Org2.left (h : Org2 w0 w p S m q T n) : OrgW w0 w p S m := by
  obtain ⟨o1, o2, h1, h2, h3, h4, h5, h6, h7, h8⟩ := h
  exact ⟨o1, h1, h3, h5, h6⟩
theorem Org2.right (h : Org2 w0 w p S m q T n) : OrgW w0 w q T n := h.symm.left
/-- A changing call of the first one. -/
theorem Org2.post {o1 o2 : Own} (h2 : OrgAt w o2 q T) (hn : T.Inv n) (h5 : Ext w0 w) (h6 : ∀ c t, o1 c = some t → w0.heap.size ≤ c) (h7 : ∀ c t, o2 c = some t → w0.heap.size ≤ c) (h8 : ∀ c t, o1 c = some t → o2 c = none) (h1t : o1 6 = none)
    (k : OrgPost w o1 p S' w') (hm : S'.Inv m') : Org2 w0 w' p S' m' q T n := by
  obtain ⟨o1', k1, k2, k3, k4⟩ := k
  refine ⟨o1', o2, k1, h2.fr k2 (fun c t hc hq => ?_) (fun hq => hq h1t), hm, hn, ?_, fun c t hc => (k4 c t hc).elim (h6 c t) fun h => Nat.le_trans h5.size h, h7, fun c t hc => ?_⟩
  · cases ho : o1 c with
    | none => exact hq ho
    | some u => rw [h8 c u ho] at hc; cases hc
  · exact h5.trans' k2 fun b hb hq => by
      cases hc : o1 b with
      | none => exact (hq hc).elim
      | some t => have := h6 b t hc; omega
  · rcases k4 c t hc with h | h
    · exact h8 c t h
    · cases hq : o2 c with
      | none => rfl
      | some u => have := h2.lt c u hq; omega
/-- A second organisation, made behind the first. -/
theorem Org2.made {w1 : World} (h : OrgW w0 w p S m) (hE : Ext w w1) (k : ∃ own, OrgAt w1 own q T ∧ ∀ c t, own c = some t → w.heap.size ≤ c) (hn : T.Inv n) : Org2 w0 w1 p S m q T n := by
  obtain ⟨o1, h1, h2, h3, h4⟩ := h
  obtain ⟨o2, k1, k2⟩ := k
  refine ⟨o1, o2, h1.ext hE, k1, h2, hn, h3.trans hE, h4, fun c t hc => Nat.le_trans h3.size (k2 c t hc), fun c t hc => ?_⟩
  cases hq : o2 c with
  | none => rfl
  | some u => have := h1.lt c t hc; have := k2 c u hq; omega
theorem does_l (h : Org2 w0 w p S m q T n) (hm : m ≤ 60000) (on k nn : Int) (a b : ByteArray) :
    Calls Tryz.prog 37 #[ptr p, OpV on k a b nn] w fun e w' => e = .returned (.tuple #[.int .i64 (S.does k a b nn).1.1, .int .i64 (S.does k a b nn).1.2]) ∧ Org2 w0 w' p (S.does k a b nn).2 (m + 1) q T n := by
  obtain ⟨o1, o2, h1, h2, h3, h4, h5, h6, h7, h8⟩ := h
  refine (does_any h1 h3 hm on k nn a b).mono ?_
  rintro e w' ⟨rfl, hP⟩
  exact ⟨rfl, Org2.post h2 h4 h5 h6 h7 h8 h1.otab hP (h3.does k a b nn)⟩
theorem does_r (h : Org2 w0 w p S m q T n) (hm : n ≤ 60000) (on k nn : Int) (a b : ByteArray) :
    Calls Tryz.prog 37 #[ptr q, OpV on k a b nn] w fun e w' => e = .returned (.tuple #[.int .i64 (T.does k a b nn).1.1, .int .i64 (T.does k a b nn).1.2]) ∧ Org2 w0 w' p S m q (T.does k a b nn).2 (n + 1) :=
  (does_l h.symm hm on k nn a b).mono fun e w' k => ⟨k.1, k.2.symm⟩
/-- A list told by an organisation, somewhere. -/
def Told (w0 w : World) (xs : List ByteArray) (e : Ending) (w' : World) : Prop := ∃ ad c base, e = .returned (.slice ad xs.length c) ∧ Ext w w' ∧ w.heap.size ≤ base ∧ w'.ownsRow base 9 1 (.slice ad xs.length c) xs.length (xs.map .string)
theorem told_of {xs : List ByteArray} {e : Ending} (k : ∃ l, e = .returned l ∧ NameList w w' l xs) : Told w0 w xs e w' := by
  obtain ⟨l, rfl, ⟨ad, c, rfl⟩, h2, h3⟩ := k
  exact ⟨ad, c, _, rfl, h2, Nat.le_refl _, h3⟩
theorem users_t (h : OrgW w0 w p S m) : Calls Tryz.prog 30 #[ptr p] w (Told w0 w S.users) := by
  obtain ⟨own, h1, hI, h3, h4⟩ := h
  exact (users_any h1).mono fun e w' k => told_of k
theorem roles_t (h : OrgW w0 w p S m) : Calls Tryz.prog 40 #[ptr p] w (Told w0 w S.roles) := by
  obtain ⟨own, h1, hI, h3, h4⟩ := h
  exact (roles_any h1).mono fun e w' k => told_of k
theorem joined_t (a : ByteArray) (h : OrgW w0 w p S m) : Calls Tryz.prog 22 #[ptr p, .string a] w (Told w0 w (S.joined a)) := by
  obtain ⟨own, h1, hI, h3, h4⟩ := h
  exact (joined_any a h1).mono fun e w' k => told_of k
theorem held_t (a : ByteArray) (h : OrgW w0 w p S m) : Calls Tryz.prog 33 #[ptr p, .string a] w (Told w0 w (S.held a)) := by
  obtain ⟨own, h1, hI, h3, h4⟩ := h
  exact (held_any a h1 hI.lent).mono fun e w' k => told_of k
theorem juniors_t (a : ByteArray) (h : OrgW w0 w p S m) : Calls Tryz.prog 42 #[ptr p, .string a] w (Told w0 w (S.juniors a)) := by
  obtain ⟨own, h1, hI, h3, h4⟩ := h
  exact (juniors_any a h1).mono fun e w' k => told_of k
theorem bars_t (a : ByteArray) (h : OrgW w0 w p S m) (hm : m ≤ 60000) : Calls Tryz.prog 27 #[ptr p, .string a] w (Told w0 w (barsOf (S.findU a))) := by
  obtain ⟨own, h1, hI, h3, h4⟩ := h
  exact (bars_any a h1 (fun i u hu => Nat.le_trans (hI.bars i u (findU_some hu).1) (by omega))).mono fun e w' k => told_of k
theorem duties_t (a : ByteArray) (h : OrgW w0 w p S m) (hm : m ≤ 60000) : Calls Tryz.prog 23 #[ptr p, .string a] w (Told w0 w (dutiesOf (S.findR a))) := by
  obtain ⟨own, h1, hI, h3, h4⟩ := h
  exact (duties_any a h1 (fun i u hu => Nat.le_trans (hI.duties i u (findR_some hu).1) (by omega))).mono fun e w' k => told_of k
theorem rests_t (a : ByteArray) (h : OrgW w0 w p S m) : Calls Tryz.prog 26 #[ptr p, .string a] w fun e w' => e = .returned (.bool (restsOf (S.findU a))) ∧ Ext w w' := by
  obtain ⟨own, h1, hI, h3, h4⟩ := h
  exact rests_any a h1
theorem epoch_t (h : OrgW w0 w p S m) : Calls Tryz.prog 36 #[ptr p] w fun e w' => e = .returned (.int .u64 S.ep) ∧ w = w' := by
  obtain ⟨own, h1, hI, h3, h4⟩ := h
  exact epoch_any h1
theorem size_t (h : OrgW w0 w p S m) : Calls Tryz.prog 92 #[ptr p] w fun e w' => e = .returned (.int .i64 S.un.length) ∧ w = w' := by
  obtain ⟨own, h1, hI, h3, h4⟩ := h
  exact size_any h1
theorem held_length (h : S.Inv m) (a : ByteArray) : (S.held a).length ≤ 64 := by
  unfold OrgS.held
  split
  · exact Nat.le_trans (pickS_length _ _ _) (by rw [h.rl]; exact h.rl64)
  · exact Nat.zero_le _
theorem juniors_length (h : S.Inv m) (a : ByteArray) : (S.juniors a).length ≤ 64 := by
  unfold OrgS.juniors
  split
  · exact Nat.le_trans (pickS_length _ _ _) (by rw [h.rl]; exact h.rl64)
  · exact Nat.zero_le _
theorem users_length (h : S.Inv m) : S.users.length ≤ 64 := Nat.le_trans (pickS_length _ _ _) (by rw [h.ul]; exact h.ul64)
theorem roles_length (h : S.Inv m) : S.roles.length ≤ 64 := Nat.le_trans (pickS_length _ _ _) (by rw [h.rl]; exact h.rl64)
end
end Go.Proofs.YtnippamifihdpaaGreatDoor
namespace Go.Proofs.YtnippamifihdpaaGreatDoor
open Go Go.RowKit
set_option linter.unusedVariables false

/-- What two organisations tell is the same. -/
structure TellSame (S T : OrgS) : Prop where
  now : T.now = S.now
  un : T.un = S.un
  uk : T.uk = S.uk
  rn : T.rn = S.rn
  rk : T.rk = S.rk
  J : T.J = S.J
  es : T.es = S.es
theorem TellSame.findU {S T : OrgS} (h : TellSame S T) (a : ByteArray) : T.findU a = S.findU a := by unfold OrgS.findU; rw [h.un, h.uk]
theorem TellSame.findR {S T : OrgS} (h : TellSame S T) (a : ByteArray) : T.findR a = S.findR a := by unfold OrgS.findR; rw [h.rn, h.rk]
theorem TellSame.users {S T : OrgS} (h : TellSame S T) : T.users = S.users := by unfold OrgS.users; rw [h.un, h.uk]
theorem TellSame.roles {S T : OrgS} (h : TellSame S T) : T.roles = S.roles := by unfold OrgS.roles; rw [h.rn, h.rk]
theorem TellSame.joined {S T : OrgS} (h : TellSame S T) (a : ByteArray) : T.joined a = S.joined a := by unfold OrgS.joined; rw [h.findU, h.rn, h.rk]
theorem TellSame.juniors {S T : OrgS} (h : TellSame S T) (a : ByteArray) : T.juniors a = S.juniors a := by unfold OrgS.juniors; rw [h.findR, h.rn, h.rk, h.J]
theorem TellSame.lentTo {S T : OrgS} (h : TellSame S T) (i k : Nat) : lentTo T i k = lentTo S i k := by
  induction k with
  | zero => unfold Go.Proofs.YtnippamifihdpaaGreatDoor.lentTo; rw [h.J, h.uk]
  | succ k ih => unfold Go.Proofs.YtnippamifihdpaaGreatDoor.lentTo lentB; rw [h.es, h.J, h.uk, ih]
theorem TellSame.has {S T : OrgS} (h : TellSame S T) (i : Nat) : T.has i = S.has i := by unfold OrgS.has; rw [h.lentTo, h.uk]
theorem TellSame.held {S T : OrgS} (h : TellSame S T) (a : ByteArray) : T.held a = S.held a := by
  unfold OrgS.held
  rw [h.findU, h.rn, h.rk]
  split
  · rw [h.has]
  · rfl

def UserRel (w : World) (n : Nat) (i : Value) (wr : World) : Prop := ∃ k : Nat, i = .int .i64 k ∧ k ≤ n ∧ Ext w wr

end Go.Proofs.YtnippamifihdpaaGreatDoor
