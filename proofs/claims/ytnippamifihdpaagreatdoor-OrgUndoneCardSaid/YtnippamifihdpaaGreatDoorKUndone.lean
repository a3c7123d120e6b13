/- law09.OrgUndone, the plain law: what is undone leaves all as it was but for the count. law09.OrgUndone, the walk (printed by gen_undone.py). -/
import Derived.Test.YtnippamifihdpaaGreatDoorKRefused
namespace Go.Proofs.YtnippamifihdpaaGreatDoor
open Go Go.RowKit
set_option linter.unusedVariables false

/-- What a call that can be undone, and its undoing, come to. x: the call; y: its undoing. -/
structure UndoneBy (x y : OrgS → Nat × OrgS) (S : OrgS) : Prop where
  again : (x (x S).2).1 ≠ 0
  undo : (y (x S).2).1 = 0
  twice : (y (y (x S).2).2).1 = 26
  same : TellSame S (y (x S).2).2
  ep : (y (x S).2).2.ep = S.ep + 2

theorem findU_set {S S' : OrgS} {a : ByteArray} {i : Nat} {u u' : UserS} (h : S.findU a = some (i, u)) (hn : S'.un = S.un) (hk : S'.uk = S.uk.set i (some u')) : S'.findU a = some (i, u') := by
  obtain ⟨h1, h2, h3⟩ := findU_some h
  unfold OrgS.findU
  rw [hn, hk, if_pos h2, ← h3, List.getD_eq_getElem?_getD, List.getElem?_set_self (List.getElem?_eq_some_iff.1 h1).1]
  rfl
theorem findR_set {S S' : OrgS} {a : ByteArray} {i : Nat} {u u' : List ByteArray} (h : S.findR a = some (i, u)) (hn : S'.rn = S.rn) (hk : S'.rk = S.rk.set i (some u')) : S'.findR a = some (i, u') := by
  obtain ⟨h1, h2, h3⟩ := findR_some h
  unfold OrgS.findR
  rw [hn, hk, if_pos h2, ← h3, List.getD_eq_getElem?_getD, List.getElem?_set_self (List.getElem?_eq_some_iff.1 h1).1]
  rfl
theorem findU_same {S S' : OrgS} (a : ByteArray) (hn : S'.un = S.un) (hk : S'.uk = S.uk) : S'.findU a = S.findU a := by unfold OrgS.findU; rw [hn, hk]
theorem findR_same {S S' : OrgS} (a : ByteArray) (hn : S'.rn = S.rn) (hk : S'.rk = S.rk) : S'.findR a = S.findR a := by unfold OrgS.findR; rw [hn, hk]
theorem set_undo {α : Type} {l : List (Option α)} {i : Nat} {u u' : α} (h : l[i]? = some (some u)) : (l.set i (some u')).set i (some u) = l := by rw [List.set_set]; exact set_self h

theorem bit_or_self (x j : Nat) : (x ||| 2 ^ j).testBit j = true := by simp [Nat.testBit_or, Nat.testBit_two_pow_self]
theorem strike_bit {x j : Nat} (hx : x < 18446744073709551616) (hj : j < 64) (hb : x.testBit j = false) : (x ||| 2 ^ j) &&& (18446744073709551615 - 2 ^ j) = x := by
  apply Nat.eq_of_testBit_eq
  intro k
  rw [Nat.testBit_and, Nat.testBit_or]
  have hm : (18446744073709551615 - 2 ^ j).testBit k = (decide (k < 64) && !decide (j = k)) := by
    have := Nat.testBit_two_pow_sub_succ (x := 2 ^ j) (n := 64) (Nat.pow_lt_pow_right (by omega) hj) k
    rw [show (2 : Nat) ^ 64 - (2 ^ j + 1) = 18446744073709551615 - 2 ^ j by omega] at this
    rw [this, Nat.testBit_two_pow]
  rw [hm, Nat.testBit_two_pow]
  by_cases hjk : j = k
  · subst hjk; simp [hb]
  · simp only [hjk, decide_false, Bool.or_false, Bool.not_false, Bool.and_true]
    by_cases hk : k < 64
    · simp [hk]
    · rw [Nat.testBit_lt_two_pow (Nat.lt_of_lt_of_le hx (by rw [show 18446744073709551616 = 2 ^ 64 by decide]; exact Nat.pow_le_pow_right (by omega) (by omega)))]; rfl

theorem join_undone {S : OrgS} {a b : ByteArray} (hr : ∀ (k : Nat) (u : UserS), S.uk[k]? = some (some u) → u.roles < 18446744073709551616) (hj64 : S.rk.length ≤ 64) (h : (S.join a b).1 = 0) : UndoneBy (fun S => S.join a b) (fun S => S.leave a b) S := by
  unfold OrgS.join at h
  split at h
  · rename_i i u j x h1 h2
    split at h
    · cases h
    · rename_i hb
      have hb : u.roles.testBit j = false := by simpa using hb
      have hk := (findU_some h1).1
      have hj : j < 64 := by have := (List.getElem?_eq_some_iff.1 (findR_some h2).1).1; omega
      have e1 : S.join a b = (0, { S with uk := S.uk.set i (some { u with roles := u.roles ||| 2 ^ j }), ep := S.ep + 1 }) := by
        unfold OrgS.join; rw [h1, h2]; dsimp only; rw [if_neg (by rw [hb]; simp)]
      have f1 := findU_set (S' := { S with uk := S.uk.set i (some { u with roles := u.roles ||| 2 ^ j }), ep := S.ep + 1 }) h1 rfl rfl
      have f2 : OrgS.findR { S with uk := S.uk.set i (some { u with roles := u.roles ||| 2 ^ j }), ep := S.ep + 1 } b = some (j, x) := (findR_same b rfl rfl).trans h2
      have e2 : OrgS.leave { S with uk := S.uk.set i (some { u with roles := u.roles ||| 2 ^ j }), ep := S.ep + 1 } a b = (0, { S with ep := S.ep + 2 }) := by
        unfold OrgS.leave; rw [f1, f2]; dsimp only; rw [if_pos (bit_or_self _ _), strike_bit (hr i u hk) hj hb, set_undo hk]
      refine ⟨?_, ?_, ?_, ?_, ?_⟩
      · (try dsimp only); rw [e1]; (try dsimp only); unfold OrgS.join; rw [f1, f2]; dsimp only; rw [if_pos (bit_or_self _ _)]; simp
      · (try dsimp only); rw [e1]; (try dsimp only); rw [e2]
      · (try dsimp only); rw [e1]; (try dsimp only); rw [e2]; (try dsimp only); unfold OrgS.leave; rw [show OrgS.findU { S with ep := S.ep + 2 } a = some (i, u) from (findU_same a rfl rfl).trans h1, show OrgS.findR { S with ep := S.ep + 2 } b = some (j, x) from (findR_same b rfl rfl).trans h2]; dsimp only; rw [if_neg (by rw [hb]; simp)]
      · (try dsimp only); rw [e1]; (try dsimp only); rw [e2]; exact ⟨rfl, rfl, rfl, rfl, rfl, rfl, rfl⟩
      · (try dsimp only); rw [e1]; (try dsimp only); rw [e2]
  · rename_i h1
    exact (missCode_ne S a h).elim

theorem rest_undone {S : OrgS} {a : ByteArray} (h : (S.rest a).1 = 0) : UndoneBy (fun S => S.rest a) (fun S => S.wake a) S := by
  unfold OrgS.rest at h
  split at h
  · rename_i i u h1
    split at h
    · cases h
    · rename_i hb
      have hb : u.rests = false := by simpa using hb
      have hk := (findU_some h1).1
      have e1 : S.rest a = (0, { S with uk := S.uk.set i (some { u with rests := true }), ep := S.ep + 1 }) := by unfold OrgS.rest; rw [h1]; dsimp only; rw [if_neg (by rw [hb]; simp)]
      have f1 := findU_set (S' := { S with uk := S.uk.set i (some { u with rests := true }), ep := S.ep + 1 }) h1 rfl rfl
      have hu : { { u with rests := true } with rests := false } = u := by cases u; simp at hb; subst hb; rfl
      have e2 : OrgS.wake { S with uk := S.uk.set i (some { u with rests := true }), ep := S.ep + 1 } a = (0, { S with ep := S.ep + 2 }) := by
        unfold OrgS.wake; rw [f1]; dsimp only; rw [if_pos rfl]
        have : (⟨u.roles, u.bars, false⟩ : UserS) = u := hu
        rw [this, set_undo hk]
      refine ⟨?_, ?_, ?_, ?_, ?_⟩
      · (try dsimp only); rw [e1]; (try dsimp only); unfold OrgS.rest; rw [f1]; dsimp only; rw [if_pos rfl]; simp
      · (try dsimp only); rw [e1]; (try dsimp only); rw [e2]
      · (try dsimp only); rw [e1]; (try dsimp only); rw [e2]; (try dsimp only); unfold OrgS.wake; rw [show OrgS.findU { S with ep := S.ep + 2 } a = some (i, u) from (findU_same a rfl rfl).trans h1]; dsimp only; rw [if_neg (by rw [hb]; simp)]
      · (try dsimp only); rw [e1]; (try dsimp only); rw [e2]; exact ⟨rfl, rfl, rfl, rfl, rfl, rfl, rfl⟩
      · (try dsimp only); rw [e1]; (try dsimp only); rw [e2]
  · cases h

theorem addSet_zero {l : List ByteArray} {d : ByteArray} (h : (addSet l d).1 = 0) : d ∉ l ∧ addSet l d = (0, l ++ [d]) ∧ (addSet (l ++ [d]) d).1 ≠ 0 ∧ dropSet (l ++ [d]) d = (0, l) ∧ (dropSet l d).1 = 26 ∧ (dropSet l d).2 = l := by
  unfold addSet at h
  split at h
  · cases h
  · rename_i h1
    split at h
    · cases h
    · rename_i h2
      refine ⟨h2, ?_, ?_, ?_, ?_, ?_⟩
      · unfold addSet; rw [if_neg h1, if_neg h2]
      · unfold addSet; rw [if_neg h1, if_pos (by simp)]; simp
      · unfold dropSet; rw [if_pos (by simp), List.erase_append_right _ h2]; simp
      · unfold dropSet; rw [if_neg h2]
      · unfold dropSet; rw [if_neg h2]

theorem grant_undone {S : OrgS} {a d : ByteArray} (h : (S.grant a d).1 = 0) : UndoneBy (fun S => S.grant a d) (fun S => S.revoke a d) S := by
  unfold OrgS.grant at h
  split at h
  · rename_i i ds h1
    obtain ⟨a1, a2, a3, a4, a5, a6⟩ := addSet_zero h
    have hk := (findR_some h1).1
    have e1 : S.grant a d = (0, { S with rk := S.rk.set i (some (ds ++ [d])), ep := S.ep + 1 }) := by unfold OrgS.grant; rw [h1]; dsimp only; rw [a2]; rfl
    have f1 := findR_set (S' := { S with rk := S.rk.set i (some (ds ++ [d])), ep := S.ep + 1 }) h1 rfl rfl
    have e2 : OrgS.revoke { S with rk := S.rk.set i (some (ds ++ [d])), ep := S.ep + 1 } a d = (0, { S with ep := S.ep + 2 }) := by
      unfold OrgS.revoke; rw [f1]; dsimp only; rw [a4]; dsimp only; rw [set_undo hk]; rfl
    refine ⟨?_, ?_, ?_, ?_, ?_⟩
    · (try dsimp only); rw [e1]; (try dsimp only); unfold OrgS.grant; rw [f1]; exact a3
    · (try dsimp only); rw [e1]; (try dsimp only); rw [e2]
    · (try dsimp only); rw [e1]; (try dsimp only); rw [e2]; (try dsimp only); unfold OrgS.revoke; rw [show OrgS.findR { S with ep := S.ep + 2 } a = some (i, ds) from (findR_same a rfl rfl).trans h1]; exact a5
    · (try dsimp only); rw [e1]; (try dsimp only); rw [e2]; exact ⟨rfl, rfl, rfl, rfl, rfl, rfl, rfl⟩
    · (try dsimp only); rw [e1]; (try dsimp only); rw [e2]
  · cases h

theorem bar_undone {S : OrgS} {a d : ByteArray} (h : (S.bar a d).1 = 0) : UndoneBy (fun S => S.bar a d) (fun S => S.unbar a d) S := by
  unfold OrgS.bar at h
  split at h
  · rename_i i u h1
    obtain ⟨a1, a2, a3, a4, a5, a6⟩ := addSet_zero h
    have hk := (findU_some h1).1
    have e1 : S.bar a d = (0, { S with uk := S.uk.set i (some { u with bars := u.bars ++ [d] }), ep := S.ep + 1 }) := by unfold OrgS.bar; rw [h1]; dsimp only; rw [a2]; rfl
    have f1 := findU_set (S' := { S with uk := S.uk.set i (some { u with bars := u.bars ++ [d] }), ep := S.ep + 1 }) h1 rfl rfl
    have e2 : OrgS.unbar { S with uk := S.uk.set i (some { u with bars := u.bars ++ [d] }), ep := S.ep + 1 } a d = (0, { S with ep := S.ep + 2 }) := by
      unfold OrgS.unbar; rw [f1]; dsimp only; rw [a4]; dsimp only; rw [set_undo hk]; rfl
    refine ⟨?_, ?_, ?_, ?_, ?_⟩
    · (try dsimp only); rw [e1]; (try dsimp only); unfold OrgS.bar; rw [f1]; exact a3
    · (try dsimp only); rw [e1]; (try dsimp only); rw [e2]
    · (try dsimp only); rw [e1]; (try dsimp only); rw [e2]; (try dsimp only); unfold OrgS.unbar; rw [show OrgS.findU { S with ep := S.ep + 2 } a = some (i, u) from (findU_same a rfl rfl).trans h1]; exact a5
    · (try dsimp only); rw [e1]; (try dsimp only); rw [e2]; exact ⟨rfl, rfl, rfl, rfl, rfl, rfl, rfl⟩
    · (try dsimp only); rw [e1]; (try dsimp only); rw [e2]
  · cases h

theorem setJ_back {J : Nat → Nat} {i : Nat} (x : Nat) : setJ (setJ J i x) i (J i) = J := by
  funext k
  unfold setJ
  by_cases h : k = i
  · subst h; simp
  · simp [h]
theorem over_undone {S : OrgS} {a b : ByteArray} (hJ : ∀ i, S.J i < 18446744073709551616) (hj64 : S.rk.length ≤ 64) (h : (S.over a b).1 = 0) : UndoneBy (fun S => S.over a b) (fun S => S.noOver a b) S := by
  unfold OrgS.over at h
  split at h
  · rename_i i x j y h1 h2
    have h : (overJ S.J i j).1 = 0 := h
    unfold overJ at h
    split at h
    · cases h
    · rename_i hb
      split at h
      · cases h
      · rename_i hc
        have hb : (S.J i).testBit j = false := by simpa using hb
        have hj : j < 64 := by have := (List.getElem?_eq_some_iff.1 (findR_some h2).1).1; omega
        have o1 : overJ S.J i j = (0, setJ S.J i (S.J i ||| 2 ^ j)) := by unfold overJ; rw [if_neg (by rw [hb]; simp), if_neg hc]
        have o2 : (setJ S.J i (S.J i ||| 2 ^ j) i).testBit j = true := by unfold setJ; rw [if_pos rfl]; exact bit_or_self _ _
        have o3 : (overJ (setJ S.J i (S.J i ||| 2 ^ j)) i j).1 ≠ 0 := by unfold overJ; rw [if_pos o2]; simp
        have o4 : cutJ (setJ S.J i (S.J i ||| 2 ^ j)) i j = (0, S.J) := by
          unfold cutJ; rw [if_pos o2, show setJ S.J i (S.J i ||| 2 ^ j) i = S.J i ||| 2 ^ j by unfold setJ; rw [if_pos rfl], strike_bit (hJ i) hj hb, setJ_back]
        have o5 : (cutJ S.J i j).1 = 26 := by unfold cutJ; rw [if_neg (by rw [hb]; simp)]
        have e1 : S.over a b = (0, { S with J := setJ S.J i (S.J i ||| 2 ^ j), ep := S.ep + 1 }) := by unfold OrgS.over; rw [h1, h2]; dsimp only; rw [o1]; rfl
        have f1 : OrgS.findR { S with J := setJ S.J i (S.J i ||| 2 ^ j), ep := S.ep + 1 } a = some (i, x) := (findR_same a rfl rfl).trans h1
        have f2 : OrgS.findR { S with J := setJ S.J i (S.J i ||| 2 ^ j), ep := S.ep + 1 } b = some (j, y) := (findR_same b rfl rfl).trans h2
        have e2 : OrgS.noOver { S with J := setJ S.J i (S.J i ||| 2 ^ j), ep := S.ep + 1 } a b = (0, { S with ep := S.ep + 2 }) := by
          unfold OrgS.noOver; rw [f1, f2]; dsimp only; rw [o4]; rfl
        refine ⟨?_, ?_, ?_, ?_, ?_⟩
        · (try dsimp only); rw [e1]; (try dsimp only); unfold OrgS.over; rw [f1, f2]; exact o3
        · (try dsimp only); rw [e1]; (try dsimp only); rw [e2]
        · (try dsimp only); rw [e1]; (try dsimp only); rw [e2]; (try dsimp only); unfold OrgS.noOver; rw [show OrgS.findR { S with ep := S.ep + 2 } a = some (i, x) from (findR_same a rfl rfl).trans h1, show OrgS.findR { S with ep := S.ep + 2 } b = some (j, y) from (findR_same b rfl rfl).trans h2]; exact o5
        · (try dsimp only); rw [e1]; (try dsimp only); rw [e2]; exact ⟨rfl, rfl, rfl, rfl, rfl, rfl, rfl⟩
        · (try dsimp only); rw [e1]; (try dsimp only); rw [e2]
  · cases h

theorem filter_insE {e : Ent} {es : List Ent} {f : Ent → Bool} (h : f e = false) : (insE e es).filter f = es.filter f := by
  induction es with
  | nil => unfold insE; simp [h]
  | cons x es ih =>
    unfold insE
    split
    · rw [List.filter_cons, List.filter_cons, ih]
    · rw [List.filter_cons, if_neg (by rw [h]; simp)]
theorem lend_undone {S : OrgS} {a c : ByteArray} {u : Int} (h : (S.lend a c u).1 = 0) : UndoneBy (fun S => S.lend a c u) (fun S => S.back a c) S := by
  obtain ⟨b1, b2, b3, b4, b5⟩ := lend_zero h
  have e1 : S.lend a c u = (0, { S with es := insE ⟨S.lid a c, u, S.turns + 1⟩ S.es, turns := S.turns + 1, ep := S.ep + 1 }) := by
    rw [← b5, ← h]
  obtain ⟨S1, hS1⟩ : ∃ S1 : OrgS, S1 = { S with es := insE ⟨S.lid a c, u, S.turns + 1⟩ S.es, turns := S.turns + 1, ep := S.ep + 1 } := ⟨_, rfl⟩
  rw [← hS1] at e1
  have l1 : S1.lid a c = S.lid a c := by subst hS1; rfl
  have l2 : S1.both a c = 0 := by subst hS1; exact b1
  have l3 : (getE S1.es (S1.lid a c)).isSome = true := by
    rw [l1, getE_isSome]
    subst hS1
    exact ⟨_, mem_insE.2 (.inl rfl), rfl⟩
  have hno : ∀ x ∈ S.es, x.id ≠ S.lid a c := fun x hx hq => by
    have : (getE S.es (S.lid a c)).isSome = true := getE_isSome.2 ⟨x, hx, hq⟩
    rw [b4] at this; cases this
  have l4 : dropE S1.es (S1.lid a c) = S.es := by
    rw [l1]
    subst hS1
    unfold dropE
    rw [filter_insE (by simp), List.filter_eq_self]
    intro x hx
    simpa using hno x hx
  have e2 : S1.back a c = (0, { S with turns := S.turns + 1, ep := S.ep + 2 }) := by
    unfold OrgS.back
    rw [if_pos l2, if_pos l3, l4]
    subst hS1
    rfl
  refine ⟨?_, ?_, ?_, ?_, ?_⟩
  · (try dsimp only); rw [e1]; (try dsimp only)
    intro h3
    have := (lend_zero h3).2.2.2.1
    rw [this] at l3; cases l3
  · (try dsimp only); rw [e1]; (try dsimp only); rw [e2]
  · (try dsimp only); rw [e1]; (try dsimp only); rw [e2]; (try dsimp only)
    unfold OrgS.back
    rw [if_pos (show OrgS.both { S with turns := S.turns + 1, ep := S.ep + 2 } a c = 0 from b1)]
    show (if (getE S.es (S.lid a c)).isSome then 0 else 26) = 26
    rw [b4]; rfl
  · (try dsimp only); rw [e1]; (try dsimp only); rw [e2]; exact ⟨rfl, rfl, rfl, rfl, rfl, rfl, rfl⟩
  · (try dsimp only); rw [e1]; (try dsimp only); rw [e2]

theorem TellSame.role {S T : OrgS} (h : TellSame S T) (a : ByteArray) : TellSame (S.role a).2 (T.role a).2 ∧ ∀ d, S.ep + d = T.ep → (S.role a).2.ep + d = (T.role a).2.ep := by
  unfold OrgS.role
  rw [h.rn, h.rk]
  refine ⟨⟨h.now, h.un, h.uk, rfl, rfl, h.J, h.es⟩, fun d hd => ?_⟩
  show bump _ S.ep + d = bump _ T.ep
  unfold bump
  split <;> omega
theorem TellSame.noRole {S T : OrgS} (h : TellSame S T) (a : ByteArray) : TellSame (S.noRole a).2 (T.noRole a).2 ∧ ∀ d, S.ep + d = T.ep → (S.noRole a).2.ep + d = (T.noRole a).2.ep := by
  unfold OrgS.noRole
  rw [h.findR]
  split
  · refine ⟨⟨h.now, h.un, ?_, h.rn, ?_, ?_, h.es⟩, fun d hd => ?_⟩
    · show T.uk.map _ = S.uk.map _; rw [h.uk]
    · show T.rk.set _ _ = S.rk.set _ _; rw [h.rk]
    · show dropAll T.J _ = dropAll S.J _; rw [h.J]
    · show S.ep + 1 + d = T.ep + 1; omega
  · exact ⟨h, fun d hd => hd⟩
end Go.Proofs.YtnippamifihdpaaGreatDoor
namespace Go.Proofs.YtnippamifihdpaaGreatDoor
open Go Go.RowKit
set_option linter.unusedVariables false

/-- Two organisations, and a block of cells that neither owns. -/
def Org2B (w0 w : World) (p : Nat) (S : OrgS) (m q : Nat) (T : OrgS) (n c : Nat) (cs : Array Value) (t : TypeId) : Prop :=
  ∃ o1 o2, (OrgAt w o1 p S ∧ OrgAt w o2 q T ∧ S.Inv m ∧ T.Inv n ∧ Ext w0 w ∧ (∀ c t, o1 c = some t → w0.heap.size ≤ c) ∧ (∀ c t, o2 c = some t → w0.heap.size ≤ c) ∧ ∀ c t, o1 c = some t → o2 c = none) ∧ Blk w c cs t ∧ o1 c = none ∧ o2 c = none
section
variable {w0 w w' : World} {p q : Nat} {S T S' T' : OrgS} {m n m' n' c : Nat} {cs : Array Value} {t : TypeId}
theorem Org2B.two (h : Org2B w0 w p S m q T n c cs t) : Org2 w0 w p S m q T n := by
  obtain ⟨o1, o2, h, _⟩ := h
  exact ⟨o1, o2, h⟩
theorem Org2B.blk (h : Org2B w0 w p S m q T n c cs t) : Blk w c cs t := by
  obtain ⟨o1, o2, _, h, _⟩ := h
  exact h
theorem Org2B.symm (h : Org2B w0 w p S m q T n c cs t) : Org2B w0 w q T n p S m c cs t := by
  obtain ⟨o1, o2, ⟨h1, h2, h3, h4, h5, h6, h7, h8⟩, hb, hc, hd⟩ := h
  refine ⟨o2, o1, ⟨h2, h1, h4, h3, h5, h7, h6, fun c t hc => ?_⟩, hb, hd, hc⟩
  cases hq : o1 c with
  | none => rfl
  | some u => rw [h8 c u hq] at hc; cases hc
theorem Org2.boxed (h : Org2 w0 w p S m q T n) (hE : Ext w w') (hb : Blk w' c cs t) (hc : w.heap.size ≤ c) : Org2B w0 w' p S m q T n c cs t := by
  obtain ⟨o1, o2, h1, h2, h3, h4, h5, h6, h7, h8⟩ := h
  refine ⟨o1, o2, ⟨h1.ext hE, h2.ext hE, h3, h4, h5.trans hE, h6, h7, h8⟩, hb, ?_, ?_⟩
  · cases hq : o1 c with
    | none => rfl
    | some u => have := h1.lt c u hq; omega
  · cases hq : o2 c with
    | none => rfl
    | some u => have := h2.lt c u hq; omega
theorem does_lB (h : Org2B w0 w p S m q T n c cs t) (hm : m ≤ 60000) (on k nn : Int) (a b : ByteArray) :
    Calls Tryz.prog 37 #[ptr p, OpV on k a b nn] w fun e w' => e = .returned (.tuple #[.int .i64 (S.does k a b nn).1.1, .int .i64 (S.does k a b nn).1.2]) ∧ Org2B w0 w' p (S.does k a b nn).2 (m + 1) q T n c cs t := by
  obtain ⟨o1, o2, ⟨h1, h2, h3, h4, h5, h6, h7, h8⟩, hb, hc, hd⟩ := h
  refine (does_any h1 h3 hm on k nn a b).mono ?_
  rintro e w' ⟨rfl, k1, hP, k2, k3, k4⟩
  refine ⟨rfl, k1, o2, ⟨hP, h2.fr k2 (fun c t hc hq => ?_) (fun hq => hq h1.otab), h3.does k a b nn, h4, ?_, fun c t hc => (k4 c t hc).elim (h6 c t) fun h => Nat.le_trans h5.size h, h7, fun c t hc => ?_⟩, hb.fr k2 (fun hq => hq hc), ?_, hd⟩
  · cases ho : o1 c with
    | none => exact hq ho
    | some u => rw [h8 c u ho] at hc; cases hc
  · exact h5.trans' k2 fun b hb hq => by
      cases hc : o1 b with
      | none => exact (hq hc).elim
      | some t => have := h6 b t hc; omega
  · rcases k4 c t hc with h | h
    · exact h8 c t h
    · cases hq : o2 c with
      | none => rfl
      | some u => have := h2.lt c u hq; omega
  · cases hq : k1 c with
    | none => rfl
    | some u =>
      rcases k4 c u hq with h | h
      · rw [hc] at h; cases h
      · have := hb.lt; omega
theorem does_rB (h : Org2B w0 w p S m q T n c cs t) (hm : n ≤ 60000) (on k nn : Int) (a b : ByteArray) :
    Calls Tryz.prog 37 #[ptr q, OpV on k a b nn] w fun e w' => e = .returned (.tuple #[.int .i64 (T.does k a b nn).1.1, .int .i64 (T.does k a b nn).1.2]) ∧ Org2B w0 w' p S m q (T.does k a b nn).2 (n + 1) c cs t :=
  (does_lB h.symm hm on k nn a b).mono fun e w' k => ⟨k.1, k.2.symm⟩
end
theorem TellSame.symm {S T : OrgS} (h : TellSame S T) : TellSame T S := ⟨h.now.symm, h.un.symm, h.uk.symm, h.rn.symm, h.rk.symm, h.J.symm, h.es.symm⟩

abbrev nMark : ByteArray := ⟨#[122, 122, 45, 109, 97, 114, 107]⟩
theorem Org2.does_ml {w0 w : World} {p q m n : Nat} {S T : OrgS} (h : Org2 w0 w p S m q T n) (hm : m ≤ 60000) (k : Int) :
    Calls Tryz.prog 37 #[ptr p, .agg #[.int .i64 0, .int .i64 k, .string nMark, .string ⟨#[]⟩, .int .i64 0]] w fun e w' => (∃ x y : Nat, e = .returned (.tuple #[.int .i64 x, .int .i64 y])) ∧ Org2 w0 w' p (S.does k nMark ⟨#[]⟩ 0).2 (m + 1) q T n :=
  (does_l h hm 0 k 0 nMark ⟨#[]⟩).mono fun e w' k => ⟨⟨_, _, k.1⟩, k.2⟩
theorem Org2.does_mr {w0 w : World} {p q m n : Nat} {S T : OrgS} (h : Org2 w0 w p S m q T n) (hm : n ≤ 60000) (k : Int) :
    Calls Tryz.prog 37 #[ptr q, .agg #[.int .i64 0, .int .i64 k, .string nMark, .string ⟨#[]⟩, .int .i64 0]] w fun e w' => (∃ x y : Nat, e = .returned (.tuple #[.int .i64 x, .int .i64 y])) ∧ Org2 w0 w' p S m q (T.does k nMark ⟨#[]⟩ 0).2 (n + 1) :=
  (does_r h hm 0 k 0 nMark ⟨#[]⟩).mono fun e w' k => ⟨⟨_, _, k.1⟩, k.2⟩
/-- A role made and taken away. -/
noncomputable def markS (S : OrgS) : OrgS := ((S.does 3 nMark ⟨#[]⟩ 0).2.does 4 nMark ⟨#[]⟩ 0).2
theorem mark_same {S T : OrgS} (h : TellSame S T) : TellSame (markS S) (markS T) ∧ ∀ d, S.ep + d = T.ep → (markS S).ep + d = (markS T).ep := by
  obtain ⟨h1, h2⟩ := h.role nMark
  obtain ⟨h3, h4⟩ := h1.noRole nMark
  exact ⟨h3, fun d hd => h4 d (h2 d hd)⟩
theorem mark_def (S : OrgS) : ((S.does 3 nMark ⟨#[]⟩ 0).2.does 4 nMark ⟨#[]⟩ 0).2 = markS S := rfl

set_option maxRecDepth 100000 in
set_option maxHeartbeats 16000000 in
theorem undone_5 (w : World) (ad : Option Addr) (len cap : Nat) (on nn : Int) (a b : ByteArray) (ops : Nat → OpS) (hops : OpsAt w ad len ops) (hT : Tab w) (hlen : len ≤ 9223372036854775807) :
    Calls Tryz.prog 6 #[.slice ad len cap, OpV on 5 a b nn] w fun e w' => e = .returned (.bool true) ∧ Ext w w' := by
  have hX0 : Ext w (w.alloc (.cells #[.int .i64 on, .int .i64 5, .string a, .string b, .int .i64 nn] 53)) := (Ext.refl w).alloc _
  have hbox := Blk.new w #[.int .i64 on, .int .i64 5, .string a, .string b, .int .i64 nn] 53
  obtain ⟨w0, hw0⟩ : ∃ w0, w.alloc (.cells #[.int .i64 on, .int .i64 5, .string a, .string b, .int .i64 nn] 53) = w0 := ⟨_, rfl⟩
  rw [hw0] at hX0 hbox
  have HOPS := hid (hops.ext hX0)
  have HT := hid (hT.ext hX0)
  have HBOX := hid hbox
  have HX0 := hid hX0
  obtain ⟨N, hN⟩ : ∃ N, min len 200 = N := ⟨_, rfl⟩
  have hN2 : N ≤ 200 := by omega
  have HNN := hid hN
  obtain ⟨S, hS⟩ : ∃ S, runTo ops N = S := ⟨_, rfl⟩
  have hinv : S.Inv N := hS ▸ inv_run ops N
  have HINV := hid hinv
  have HS := hid hS
  have HW0 := hid hw0
  have hm1 := made_any w0 ad len cap ops N hN.symm HOPS.out HT.out hlen
  have HM1 := hid hm1
  clear hops hT hX0 hbox hN hS hinv hw0 hm1
  go_enter Tryz.func6, Tryz.ntmps6
  go_wp2_with fail
  rw [HW0.out]
  refine HM1.out.mono ?_
  rintro r w1 ⟨p, own, rfl, hO, hE, hlo⟩
  rw [HS.out] at hO
  have HO1 := hid (OrgW.mk' (w0 := w0) hO HINV.out hE hlo)
  clear hO hE hlo
  go_wp2_with fail
  refine (made_any w1 ad len cap ops N HNN.out.symm (HOPS.out.ext HO1.out.old) (HT.out.ext HO1.out.old) hlen).mono ?_
  rintro r w2 ⟨q, own2, rfl, hO, hE, hlo⟩
  rw [HS.out] at hO
  have HO2 := hid (Org2.made HO1.out hE ⟨own2, hO, hlo⟩ HINV.out)
  clear hO hE hlo
  go_wp2_with (go_at_call 15; refine (wakes_any w2 (HT.out.ext HO2.out.old)).mono ?_; rintro r w3 ⟨rfl, hE⟩; have HO3 := hid (HO2.out.ext hE); clear hE; have hb4 := HBOX.out.ext HO3.out.old; have b0 := hb4.cell 0; have b1 := hb4.cell 1; have b2 := hb4.cell 2; have b3 := hb4.cell 3; have b4 := hb4.cell 4; have bl := hb4.lt; simp at b0 b1 b2 b3 b4; clear hb4)
  obtain ⟨hJ, hR, _, _⟩ := HO3.out.left.facts
  have hrk : S.rk.length ≤ 64 := by rw [HINV.out.rl]; exact HINV.out.rl64
  have HB := hid (Org2.boxed (c := w3.heap.size) HO3.out ((Ext.refl w3).alloc _) (Blk.new w3 #[.int .i64 on, .int .i64 6, .string a, .string b, .int .i64 nn] 53) (Nat.le_refl _))
  have hep := HINV.out.ep
  obtain ⟨S1, hS1⟩ : ∃ S1, (S.does 5 a b nn).2 = S1 := ⟨_, rfl⟩
  obtain ⟨x1, hx1⟩ : ∃ x, (S.does 5 a b nn).1.1 = x := ⟨_, rfl⟩
  obtain ⟨y1, hy1⟩ : ∃ x, (S.does 5 a b nn).1.2 = x := ⟨_, rfl⟩
  by_cases hy0 : (S.does 5 a b nn).1.2 = 0
  · have U : UndoneBy (fun S => ((S.does 5 a b nn).1.2, (S.does 5 a b nn).2)) (fun S => ((S.does 6 a b nn).1.2, (S.does 6 a b nn).2)) S := join_undone hR hrk hy0
    obtain ⟨u1, u2, u3, u4, u5⟩ := U
    dsimp only at u1 u2 u3 u4 u5
    rw [hS1] at u1 u2 u3 u4 u5
    have s1 := does_bad u1
    obtain ⟨S2, hS2⟩ : ∃ S2, (S1.does 6 a b nn).2 = S2 := ⟨_, rfl⟩
    rw [hS2] at u3 u4 u5
    have s2 : (S2.does 6 a b nn).2 = S2 := does_bad (by rw [u3]; decide)
    obtain ⟨x2, hx2⟩ : ∃ x, (S1.does 5 a b nn).1.1 = x := ⟨_, rfl⟩
    obtain ⟨y2, hy2⟩ : ∃ x, (S1.does 5 a b nn).1.2 = x := ⟨_, rfl⟩
    obtain ⟨x3, hx3⟩ : ∃ x, (S1.does 6 a b nn).1.1 = x := ⟨_, rfl⟩
    obtain ⟨x4, hx4⟩ : ∃ x, (S2.does 6 a b nn).1.1 = x := ⟨_, rfl⟩
    have hyb : ((y2 : Int) != 0) = true := by rw [← hy2]; simpa using u1
    have HY0 := hid hy0
    have HX1 := hid hx1
    have HS1 := hid hS1
    have HX2 := hid hx2
    have HY2 := hid hy2
    have HX3 := hid hx3
    have HX4 := hid hx4
    have HS2 := hid hS2
    have H1 := hid s1
    have H2 := hid s2
    have HU2 := hid u2
    have HU3 := hid u3
    have HU4 := hid u4
    have HU5 := hid u5
    clear hJ hR hy0 hx1 hS1 hx2 hy2 hx3 hx4 hS2 s1 s2 u1 u2 u3 u4 u5 hy1
    refine (does_lB HB.out (by omega) on 5 nn a b).mono ?_
    rintro r w5 ⟨rfl, hO⟩
    rw [HX1.out, HY0.out]
    rw [HS1.out] at hO
    have HB1 := hid hO
    clear hO b0 b1 b2 b3 b4
    have hb := HBOX.out.ext HB1.out.two.old; have b0 := hb.cell 0; have b1 := hb.cell 1; have b2 := hb.cell 2; have b3 := hb.cell 3; have b4 := hb.cell 4; have hc := HB1.out.blk; have c0 := hc.cell 0; have c1 := hc.cell 1; have c2 := hc.cell 2; have c3 := hc.cell 3; have c4 := hc.cell 4; simp at b0 b1 b2 b3 b4 c0 c1 c2 c3 c4; clear hb hc
    go_wp2_with fail
    refine (does_lB HB1.out (by omega) on 5 nn a b).mono ?_
    rintro r w6 ⟨rfl, hO⟩
    rw [HX2.out, HY2.out]
    rw [H1.out] at hO
    have HB2 := hid hO
    clear hO b0 b1 b2 b3 b4 c0 c1 c2 c3 c4
    have hb := HBOX.out.ext HB2.out.two.old; have b0 := hb.cell 0; have b1 := hb.cell 1; have b2 := hb.cell 2; have b3 := hb.cell 3; have b4 := hb.cell 4; have hc := HB2.out.blk; have c0 := hc.cell 0; have c1 := hc.cell 1; have c2 := hc.cell 2; have c3 := hc.cell 3; have c4 := hc.cell 4; simp at b0 b1 b2 b3 b4 c0 c1 c2 c3 c4; clear hb hc
    go_wp2_with fail
    refine (does_lB HB2.out (by omega) on 6 nn a b).mono ?_
    rintro r w7 ⟨rfl, hO⟩
    rw [HX3.out, HU2.out]
    rw [HS2.out] at hO
    have HB3 := hid hO
    clear hO b0 b1 b2 b3 b4 c0 c1 c2 c3 c4
    have hb := HBOX.out.ext HB3.out.two.old; have b0 := hb.cell 0; have b1 := hb.cell 1; have b2 := hb.cell 2; have b3 := hb.cell 3; have b4 := hb.cell 4; have hc := HB3.out.blk; have c0 := hc.cell 0; have c1 := hc.cell 1; have c2 := hc.cell 2; have c3 := hc.cell 3; have c4 := hc.cell 4; simp at b0 b1 b2 b3 b4 c0 c1 c2 c3 c4; clear hb hc
    go_wp2_with fail
    refine (does_lB HB3.out (by omega) on 6 nn a b).mono ?_
    rintro r w8 ⟨rfl, hO⟩
    rw [HX4.out, HU3.out]
    rw [H2.out] at hO
    have HC0 := hid hO.two
    clear hO b0 b1 b2 b3 b4 c0 c1 c2 c3 c4
    go_wp2_with fail
    refine wp_loop_rounds 3 ?_
    rw [rounds_succ]
    go_wp2_with fail
    refine (Org2.does_mr HC0.out (by omega) 3).mono ?_
    rintro r v1 ⟨⟨xa0, xb0, rfl⟩, hO⟩
    have HC1 := hid hO
    clear hO
    go_wp2_with fail
    refine (Org2.does_mr HC1.out (by omega) 4).mono ?_
    rintro r v2 ⟨⟨xa1, xb1, rfl⟩, hO⟩
    have HC2 := hid hO
    clear hO
    go_wp2_with fail
    refine (Org2.does_ml HC2.out (by omega) 3).mono ?_
    rintro r v3 ⟨⟨xa2, xb2, rfl⟩, hO⟩
    have HC3 := hid hO
    clear hO
    go_wp2_with fail
    refine (Org2.does_ml HC3.out (by omega) 4).mono ?_
    rintro r v4 ⟨⟨xa3, xb3, rfl⟩, hO⟩
    have HC4 := hid hO
    clear hO
    go_wp2_with fail
    rw [rounds_succ]
    go_wp2_with fail
    refine (Org2.does_mr HC4.out (by omega) 3).mono ?_
    rintro r v5 ⟨⟨xa4, xb4, rfl⟩, hO⟩
    have HC5 := hid hO
    clear hO
    go_wp2_with fail
    refine (Org2.does_mr HC5.out (by omega) 4).mono ?_
    rintro r v6 ⟨⟨xa5, xb5, rfl⟩, hO⟩
    have HC6 := hid hO
    clear hO
    go_wp2_with fail
    refine (Org2.does_ml HC6.out (by omega) 3).mono ?_
    rintro r v7 ⟨⟨xa6, xb6, rfl⟩, hO⟩
    have HC7 := hid hO
    clear hO
    go_wp2_with fail
    refine (Org2.does_ml HC7.out (by omega) 4).mono ?_
    rintro r v8 ⟨⟨xa7, xb7, rfl⟩, hO⟩
    have HC8 := hid hO
    clear hO
    go_wp2_with fail
    rw [rounds_succ]
    have hm := mark_same HU4.out
    have hm2 := mark_same hm.1
    have he := hm2.2 2 (hm.2 2 (by have := HU5.out; omega))
    have hbd := HC8.out.inv2.ep
    obtain ⟨P4, hP4⟩ : ∃ P4, markS (markS S2) = P4 := ⟨_, rfl⟩
    obtain ⟨Q4, hQ4⟩ : ∃ Q4, markS (markS S) = Q4 := ⟨_, rfl⟩
    have HC9 : Hid (Org2 w0 v8 p P4 _ q Q4 _) := hid (by rw [← hP4, ← hQ4]; exact HC8.out)
    rw [hP4, hQ4] at he
    have hts : TellSame P4 Q4 := by rw [← hP4, ← hQ4]; exact hm2.1.symm
    have hbq : Q4.ep ≤ 60000 := by rw [← hQ4]; exact Nat.le_trans hbd (by omega)
    have heq : (P4.ep : Int) = (Q4.ep : Int) + 2 := by omega
    have HE := hid heq
    have HTS := hid hts
    have wq : IntKind.u64.wrap ((Q4.ep : Int) + 2) = (Q4.ep : Int) + 2 := by simp [IntKind.wrap, IntKind.bits, IntKind.signed]; omega
    clear hm hm2 he hbd hP4 hQ4 heq hts
    go_wp2_with (first | (go_at_call_of 36 p; refine (epoch_t HC9.out.left).mono ?_; rintro r z1 ⟨rfl, rfl⟩; rw [HE.out]) | (go_at_call_of 36 q; refine (epoch_t HC9.out.right).mono ?_; rintro r z2 ⟨rfl, rfl⟩) | (go_at_call 39; refine (same_any HC9.out (by omega) (by omega) HTS.out).mono ?_; rintro r z3 ⟨rfl, hE⟩; have HZ := hid (HC9.out.ext hE); clear hE))
    go_ret
    exact ⟨rfl, HX0.out.trans HZ.out.old⟩
  · have hbad : S1 = S := by rw [← hS1]; exact does_bad hy0
    have hyb : ((y1 : Int) != 0) = true := by rw [← hy1]; simpa using hy0
    have HX1 := hid hx1
    have HY1 := hid hy1
    have HS1 := hid (hS1.trans hbad)
    clear hJ hR hy0 hx1 hS1 hy1 hbad
    refine (does_lB HB.out (by omega) on 5 nn a b).mono ?_
    rintro r w5 ⟨rfl, hO⟩
    rw [HX1.out, HY1.out]
    rw [HS1.out] at hO
    have HC := hid hO.two
    clear hO
    go_wp2_with (go_at_call 38; refine (alike_any HC.out (by omega) (by omega) (TellSame.refl _) rfl).mono ?_; rintro r z ⟨rfl, hE⟩; have HZ := hid (HC.out.ext hE); clear hE)
    go_ret
    exact ⟨rfl, HX0.out.trans HZ.out.old⟩

set_option maxRecDepth 100000 in
set_option maxHeartbeats 16000000 in
theorem undone_7 (w : World) (ad : Option Addr) (len cap : Nat) (on nn : Int) (a b : ByteArray) (ops : Nat → OpS) (hops : OpsAt w ad len ops) (hT : Tab w) (hlen : len ≤ 9223372036854775807) :
    Calls Tryz.prog 6 #[.slice ad len cap, OpV on 7 a b nn] w fun e w' => e = .returned (.bool true) ∧ Ext w w' := by
  have hX0 : Ext w (w.alloc (.cells #[.int .i64 on, .int .i64 7, .string a, .string b, .int .i64 nn] 53)) := (Ext.refl w).alloc _
  have hbox := Blk.new w #[.int .i64 on, .int .i64 7, .string a, .string b, .int .i64 nn] 53
  obtain ⟨w0, hw0⟩ : ∃ w0, w.alloc (.cells #[.int .i64 on, .int .i64 7, .string a, .string b, .int .i64 nn] 53) = w0 := ⟨_, rfl⟩
  rw [hw0] at hX0 hbox
  have HOPS := hid (hops.ext hX0)
  have HT := hid (hT.ext hX0)
  have HBOX := hid hbox
  have HX0 := hid hX0
  obtain ⟨N, hN⟩ : ∃ N, min len 200 = N := ⟨_, rfl⟩
  have hN2 : N ≤ 200 := by omega
  have HNN := hid hN
  obtain ⟨S, hS⟩ : ∃ S, runTo ops N = S := ⟨_, rfl⟩
  have hinv : S.Inv N := hS ▸ inv_run ops N
  have HINV := hid hinv
  have HS := hid hS
  have HW0 := hid hw0
  have hm1 := made_any w0 ad len cap ops N hN.symm HOPS.out HT.out hlen
  have HM1 := hid hm1
  clear hops hT hX0 hbox hN hS hinv hw0 hm1
  go_enter Tryz.func6, Tryz.ntmps6
  go_wp2_with fail
  rw [HW0.out]
  refine HM1.out.mono ?_
  rintro r w1 ⟨p, own, rfl, hO, hE, hlo⟩
  rw [HS.out] at hO
  have HO1 := hid (OrgW.mk' (w0 := w0) hO HINV.out hE hlo)
  clear hO hE hlo
  go_wp2_with fail
  refine (made_any w1 ad len cap ops N HNN.out.symm (HOPS.out.ext HO1.out.old) (HT.out.ext HO1.out.old) hlen).mono ?_
  rintro r w2 ⟨q, own2, rfl, hO, hE, hlo⟩
  rw [HS.out] at hO
  have HO2 := hid (Org2.made HO1.out hE ⟨own2, hO, hlo⟩ HINV.out)
  clear hO hE hlo
  go_wp2_with (go_at_call 15; refine (wakes_any w2 (HT.out.ext HO2.out.old)).mono ?_; rintro r w3 ⟨rfl, hE⟩; have HO3 := hid (HO2.out.ext hE); clear hE; have hb4 := HBOX.out.ext HO3.out.old; have b0 := hb4.cell 0; have b1 := hb4.cell 1; have b2 := hb4.cell 2; have b3 := hb4.cell 3; have b4 := hb4.cell 4; have bl := hb4.lt; simp at b0 b1 b2 b3 b4; clear hb4)
  obtain ⟨hJ, hR, _, _⟩ := HO3.out.left.facts
  have hrk : S.rk.length ≤ 64 := by rw [HINV.out.rl]; exact HINV.out.rl64
  have HB := hid (Org2.boxed (c := w3.heap.size) HO3.out ((Ext.refl w3).alloc _) (Blk.new w3 #[.int .i64 on, .int .i64 8, .string a, .string b, .int .i64 nn] 53) (Nat.le_refl _))
  have hep := HINV.out.ep
  obtain ⟨S1, hS1⟩ : ∃ S1, (S.does 7 a b nn).2 = S1 := ⟨_, rfl⟩
  obtain ⟨x1, hx1⟩ : ∃ x, (S.does 7 a b nn).1.1 = x := ⟨_, rfl⟩
  obtain ⟨y1, hy1⟩ : ∃ x, (S.does 7 a b nn).1.2 = x := ⟨_, rfl⟩
  by_cases hy0 : (S.does 7 a b nn).1.2 = 0
  · have U : UndoneBy (fun S => ((S.does 7 a b nn).1.2, (S.does 7 a b nn).2)) (fun S => ((S.does 8 a b nn).1.2, (S.does 8 a b nn).2)) S := over_undone hJ hrk hy0
    obtain ⟨u1, u2, u3, u4, u5⟩ := U
    dsimp only at u1 u2 u3 u4 u5
    rw [hS1] at u1 u2 u3 u4 u5
    have s1 := does_bad u1
    obtain ⟨S2, hS2⟩ : ∃ S2, (S1.does 8 a b nn).2 = S2 := ⟨_, rfl⟩
    rw [hS2] at u3 u4 u5
    have s2 : (S2.does 8 a b nn).2 = S2 := does_bad (by rw [u3]; decide)
    obtain ⟨x2, hx2⟩ : ∃ x, (S1.does 7 a b nn).1.1 = x := ⟨_, rfl⟩
    obtain ⟨y2, hy2⟩ : ∃ x, (S1.does 7 a b nn).1.2 = x := ⟨_, rfl⟩
    obtain ⟨x3, hx3⟩ : ∃ x, (S1.does 8 a b nn).1.1 = x := ⟨_, rfl⟩
    obtain ⟨x4, hx4⟩ : ∃ x, (S2.does 8 a b nn).1.1 = x := ⟨_, rfl⟩
    have hyb : ((y2 : Int) != 0) = true := by rw [← hy2]; simpa using u1
    have HY0 := hid hy0
    have HX1 := hid hx1
    have HS1 := hid hS1
    have HX2 := hid hx2
    have HY2 := hid hy2
    have HX3 := hid hx3
    have HX4 := hid hx4
    have HS2 := hid hS2
    have H1 := hid s1
    have H2 := hid s2
    have HU2 := hid u2
    have HU3 := hid u3
    have HU4 := hid u4
    have HU5 := hid u5
    clear hJ hR hy0 hx1 hS1 hx2 hy2 hx3 hx4 hS2 s1 s2 u1 u2 u3 u4 u5 hy1
    refine (does_lB HB.out (by omega) on 7 nn a b).mono ?_
    rintro r w5 ⟨rfl, hO⟩
    rw [HX1.out, HY0.out]
    rw [HS1.out] at hO
    have HB1 := hid hO
    clear hO b0 b1 b2 b3 b4
    have hb := HBOX.out.ext HB1.out.two.old; have b0 := hb.cell 0; have b1 := hb.cell 1; have b2 := hb.cell 2; have b3 := hb.cell 3; have b4 := hb.cell 4; have hc := HB1.out.blk; have c0 := hc.cell 0; have c1 := hc.cell 1; have c2 := hc.cell 2; have c3 := hc.cell 3; have c4 := hc.cell 4; simp at b0 b1 b2 b3 b4 c0 c1 c2 c3 c4; clear hb hc
    go_wp2_with fail
    refine (does_lB HB1.out (by omega) on 7 nn a b).mono ?_
    rintro r w6 ⟨rfl, hO⟩
    rw [HX2.out, HY2.out]
    rw [H1.out] at hO
    have HB2 := hid hO
    clear hO b0 b1 b2 b3 b4 c0 c1 c2 c3 c4
    have hb := HBOX.out.ext HB2.out.two.old; have b0 := hb.cell 0; have b1 := hb.cell 1; have b2 := hb.cell 2; have b3 := hb.cell 3; have b4 := hb.cell 4; have hc := HB2.out.blk; have c0 := hc.cell 0; have c1 := hc.cell 1; have c2 := hc.cell 2; have c3 := hc.cell 3; have c4 := hc.cell 4; simp at b0 b1 b2 b3 b4 c0 c1 c2 c3 c4; clear hb hc
    go_wp2_with fail
    refine (does_lB HB2.out (by omega) on 8 nn a b).mono ?_
    rintro r w7 ⟨rfl, hO⟩
    rw [HX3.out, HU2.out]
    rw [HS2.out] at hO
    have HB3 := hid hO
    clear hO b0 b1 b2 b3 b4 c0 c1 c2 c3 c4
    have hb := HBOX.out.ext HB3.out.two.old; have b0 := hb.cell 0; have b1 := hb.cell 1; have b2 := hb.cell 2; have b3 := hb.cell 3; have b4 := hb.cell 4; have hc := HB3.out.blk; have c0 := hc.cell 0; have c1 := hc.cell 1; have c2 := hc.cell 2; have c3 := hc.cell 3; have c4 := hc.cell 4; simp at b0 b1 b2 b3 b4 c0 c1 c2 c3 c4; clear hb hc
    go_wp2_with fail
    refine (does_lB HB3.out (by omega) on 8 nn a b).mono ?_
    rintro r w8 ⟨rfl, hO⟩
    rw [HX4.out, HU3.out]
    rw [H2.out] at hO
    have HC0 := hid hO.two
    clear hO b0 b1 b2 b3 b4 c0 c1 c2 c3 c4
    go_wp2_with fail
    refine wp_loop_rounds 3 ?_
    rw [rounds_succ]
    go_wp2_with fail
    refine (Org2.does_mr HC0.out (by omega) 3).mono ?_
    rintro r v1 ⟨⟨xa0, xb0, rfl⟩, hO⟩
    have HC1 := hid hO
    clear hO
    go_wp2_with fail
    refine (Org2.does_mr HC1.out (by omega) 4).mono ?_
    rintro r v2 ⟨⟨xa1, xb1, rfl⟩, hO⟩
    have HC2 := hid hO
    clear hO
    go_wp2_with fail
    refine (Org2.does_ml HC2.out (by omega) 3).mono ?_
    rintro r v3 ⟨⟨xa2, xb2, rfl⟩, hO⟩
    have HC3 := hid hO
    clear hO
    go_wp2_with fail
    refine (Org2.does_ml HC3.out (by omega) 4).mono ?_
    rintro r v4 ⟨⟨xa3, xb3, rfl⟩, hO⟩
    have HC4 := hid hO
    clear hO
    go_wp2_with fail
    rw [rounds_succ]
    go_wp2_with fail
    refine (Org2.does_mr HC4.out (by omega) 3).mono ?_
    rintro r v5 ⟨⟨xa4, xb4, rfl⟩, hO⟩
    have HC5 := hid hO
    clear hO
    go_wp2_with fail
    refine (Org2.does_mr HC5.out (by omega) 4).mono ?_
    rintro r v6 ⟨⟨xa5, xb5, rfl⟩, hO⟩
    have HC6 := hid hO
    clear hO
    go_wp2_with fail
    refine (Org2.does_ml HC6.out (by omega) 3).mono ?_
    rintro r v7 ⟨⟨xa6, xb6, rfl⟩, hO⟩
    have HC7 := hid hO
    clear hO
    go_wp2_with fail
    refine (Org2.does_ml HC7.out (by omega) 4).mono ?_
    rintro r v8 ⟨⟨xa7, xb7, rfl⟩, hO⟩
    have HC8 := hid hO
    clear hO
    go_wp2_with fail
    rw [rounds_succ]
    have hm := mark_same HU4.out
    have hm2 := mark_same hm.1
    have he := hm2.2 2 (hm.2 2 (by have := HU5.out; omega))
    have hbd := HC8.out.inv2.ep
    obtain ⟨P4, hP4⟩ : ∃ P4, markS (markS S2) = P4 := ⟨_, rfl⟩
    obtain ⟨Q4, hQ4⟩ : ∃ Q4, markS (markS S) = Q4 := ⟨_, rfl⟩
    have HC9 : Hid (Org2 w0 v8 p P4 _ q Q4 _) := hid (by rw [← hP4, ← hQ4]; exact HC8.out)
    rw [hP4, hQ4] at he
    have hts : TellSame P4 Q4 := by rw [← hP4, ← hQ4]; exact hm2.1.symm
    have hbq : Q4.ep ≤ 60000 := by rw [← hQ4]; exact Nat.le_trans hbd (by omega)
    have heq : (P4.ep : Int) = (Q4.ep : Int) + 2 := by omega
    have HE := hid heq
    have HTS := hid hts
    have wq : IntKind.u64.wrap ((Q4.ep : Int) + 2) = (Q4.ep : Int) + 2 := by simp [IntKind.wrap, IntKind.bits, IntKind.signed]; omega
    clear hm hm2 he hbd hP4 hQ4 heq hts
    go_wp2_with (first | (go_at_call_of 36 p; refine (epoch_t HC9.out.left).mono ?_; rintro r z1 ⟨rfl, rfl⟩; rw [HE.out]) | (go_at_call_of 36 q; refine (epoch_t HC9.out.right).mono ?_; rintro r z2 ⟨rfl, rfl⟩) | (go_at_call 39; refine (same_any HC9.out (by omega) (by omega) HTS.out).mono ?_; rintro r z3 ⟨rfl, hE⟩; have HZ := hid (HC9.out.ext hE); clear hE))
    go_ret
    exact ⟨rfl, HX0.out.trans HZ.out.old⟩
  · have hbad : S1 = S := by rw [← hS1]; exact does_bad hy0
    have hyb : ((y1 : Int) != 0) = true := by rw [← hy1]; simpa using hy0
    have HX1 := hid hx1
    have HY1 := hid hy1
    have HS1 := hid (hS1.trans hbad)
    clear hJ hR hy0 hx1 hS1 hy1 hbad
    refine (does_lB HB.out (by omega) on 7 nn a b).mono ?_
    rintro r w5 ⟨rfl, hO⟩
    rw [HX1.out, HY1.out]
    rw [HS1.out] at hO
    have HC := hid hO.two
    clear hO
    go_wp2_with (go_at_call 38; refine (alike_any HC.out (by omega) (by omega) (TellSame.refl _) rfl).mono ?_; rintro r z ⟨rfl, hE⟩; have HZ := hid (HC.out.ext hE); clear hE)
    go_ret
    exact ⟨rfl, HX0.out.trans HZ.out.old⟩

set_option maxRecDepth 100000 in
set_option maxHeartbeats 16000000 in
theorem undone_9 (w : World) (ad : Option Addr) (len cap : Nat) (on nn : Int) (a b : ByteArray) (ops : Nat → OpS) (hops : OpsAt w ad len ops) (hT : Tab w) (hlen : len ≤ 9223372036854775807) :
    Calls Tryz.prog 6 #[.slice ad len cap, OpV on 9 a b nn] w fun e w' => e = .returned (.bool true) ∧ Ext w w' := by
  have hX0 : Ext w (w.alloc (.cells #[.int .i64 on, .int .i64 9, .string a, .string b, .int .i64 nn] 53)) := (Ext.refl w).alloc _
  have hbox := Blk.new w #[.int .i64 on, .int .i64 9, .string a, .string b, .int .i64 nn] 53
  obtain ⟨w0, hw0⟩ : ∃ w0, w.alloc (.cells #[.int .i64 on, .int .i64 9, .string a, .string b, .int .i64 nn] 53) = w0 := ⟨_, rfl⟩
  rw [hw0] at hX0 hbox
  have HOPS := hid (hops.ext hX0)
  have HT := hid (hT.ext hX0)
  have HBOX := hid hbox
  have HX0 := hid hX0
  obtain ⟨N, hN⟩ : ∃ N, min len 200 = N := ⟨_, rfl⟩
  have hN2 : N ≤ 200 := by omega
  have HNN := hid hN
  obtain ⟨S, hS⟩ : ∃ S, runTo ops N = S := ⟨_, rfl⟩
  have hinv : S.Inv N := hS ▸ inv_run ops N
  have HINV := hid hinv
  have HS := hid hS
  have HW0 := hid hw0
  have hm1 := made_any w0 ad len cap ops N hN.symm HOPS.out HT.out hlen
  have HM1 := hid hm1
  clear hops hT hX0 hbox hN hS hinv hw0 hm1
  go_enter Tryz.func6, Tryz.ntmps6
  go_wp2_with fail
  rw [HW0.out]
  refine HM1.out.mono ?_
  rintro r w1 ⟨p, own, rfl, hO, hE, hlo⟩
  rw [HS.out] at hO
  have HO1 := hid (OrgW.mk' (w0 := w0) hO HINV.out hE hlo)
  clear hO hE hlo
  go_wp2_with fail
  refine (made_any w1 ad len cap ops N HNN.out.symm (HOPS.out.ext HO1.out.old) (HT.out.ext HO1.out.old) hlen).mono ?_
  rintro r w2 ⟨q, own2, rfl, hO, hE, hlo⟩
  rw [HS.out] at hO
  have HO2 := hid (Org2.made HO1.out hE ⟨own2, hO, hlo⟩ HINV.out)
  clear hO hE hlo
  go_wp2_with (go_at_call 15; refine (wakes_any w2 (HT.out.ext HO2.out.old)).mono ?_; rintro r w3 ⟨rfl, hE⟩; have HO3 := hid (HO2.out.ext hE); clear hE; have hb4 := HBOX.out.ext HO3.out.old; have b0 := hb4.cell 0; have b1 := hb4.cell 1; have b2 := hb4.cell 2; have b3 := hb4.cell 3; have b4 := hb4.cell 4; have bl := hb4.lt; simp at b0 b1 b2 b3 b4; clear hb4)
  obtain ⟨hJ, hR, _, _⟩ := HO3.out.left.facts
  have hrk : S.rk.length ≤ 64 := by rw [HINV.out.rl]; exact HINV.out.rl64
  have HB := hid (Org2.boxed (c := w3.heap.size) HO3.out ((Ext.refl w3).alloc _) (Blk.new w3 #[.int .i64 on, .int .i64 10, .string a, .string b, .int .i64 nn] 53) (Nat.le_refl _))
  have hep := HINV.out.ep
  obtain ⟨S1, hS1⟩ : ∃ S1, (S.does 9 a b nn).2 = S1 := ⟨_, rfl⟩
  obtain ⟨x1, hx1⟩ : ∃ x, (S.does 9 a b nn).1.1 = x := ⟨_, rfl⟩
  obtain ⟨y1, hy1⟩ : ∃ x, (S.does 9 a b nn).1.2 = x := ⟨_, rfl⟩
  by_cases hy0 : (S.does 9 a b nn).1.2 = 0
  · have U : UndoneBy (fun S => ((S.does 9 a b nn).1.2, (S.does 9 a b nn).2)) (fun S => ((S.does 10 a b nn).1.2, (S.does 10 a b nn).2)) S := grant_undone hy0
    obtain ⟨u1, u2, u3, u4, u5⟩ := U
    dsimp only at u1 u2 u3 u4 u5
    rw [hS1] at u1 u2 u3 u4 u5
    have s1 := does_bad u1
    obtain ⟨S2, hS2⟩ : ∃ S2, (S1.does 10 a b nn).2 = S2 := ⟨_, rfl⟩
    rw [hS2] at u3 u4 u5
    have s2 : (S2.does 10 a b nn).2 = S2 := does_bad (by rw [u3]; decide)
    obtain ⟨x2, hx2⟩ : ∃ x, (S1.does 9 a b nn).1.1 = x := ⟨_, rfl⟩
    obtain ⟨y2, hy2⟩ : ∃ x, (S1.does 9 a b nn).1.2 = x := ⟨_, rfl⟩
    obtain ⟨x3, hx3⟩ : ∃ x, (S1.does 10 a b nn).1.1 = x := ⟨_, rfl⟩
    obtain ⟨x4, hx4⟩ : ∃ x, (S2.does 10 a b nn).1.1 = x := ⟨_, rfl⟩
    have hyb : ((y2 : Int) != 0) = true := by rw [← hy2]; simpa using u1
    have HY0 := hid hy0
    have HX1 := hid hx1
    have HS1 := hid hS1
    have HX2 := hid hx2
    have HY2 := hid hy2
    have HX3 := hid hx3
    have HX4 := hid hx4
    have HS2 := hid hS2
    have H1 := hid s1
    have H2 := hid s2
    have HU2 := hid u2
    have HU3 := hid u3
    have HU4 := hid u4
    have HU5 := hid u5
    clear hJ hR hy0 hx1 hS1 hx2 hy2 hx3 hx4 hS2 s1 s2 u1 u2 u3 u4 u5 hy1
    refine (does_lB HB.out (by omega) on 9 nn a b).mono ?_
    rintro r w5 ⟨rfl, hO⟩
    rw [HX1.out, HY0.out]
    rw [HS1.out] at hO
    have HB1 := hid hO
    clear hO b0 b1 b2 b3 b4
    have hb := HBOX.out.ext HB1.out.two.old; have b0 := hb.cell 0; have b1 := hb.cell 1; have b2 := hb.cell 2; have b3 := hb.cell 3; have b4 := hb.cell 4; have hc := HB1.out.blk; have c0 := hc.cell 0; have c1 := hc.cell 1; have c2 := hc.cell 2; have c3 := hc.cell 3; have c4 := hc.cell 4; simp at b0 b1 b2 b3 b4 c0 c1 c2 c3 c4; clear hb hc
    go_wp2_with fail
    refine (does_lB HB1.out (by omega) on 9 nn a b).mono ?_
    rintro r w6 ⟨rfl, hO⟩
    rw [HX2.out, HY2.out]
    rw [H1.out] at hO
    have HB2 := hid hO
    clear hO b0 b1 b2 b3 b4 c0 c1 c2 c3 c4
    have hb := HBOX.out.ext HB2.out.two.old; have b0 := hb.cell 0; have b1 := hb.cell 1; have b2 := hb.cell 2; have b3 := hb.cell 3; have b4 := hb.cell 4; have hc := HB2.out.blk; have c0 := hc.cell 0; have c1 := hc.cell 1; have c2 := hc.cell 2; have c3 := hc.cell 3; have c4 := hc.cell 4; simp at b0 b1 b2 b3 b4 c0 c1 c2 c3 c4; clear hb hc
    go_wp2_with fail
    refine (does_lB HB2.out (by omega) on 10 nn a b).mono ?_
    rintro r w7 ⟨rfl, hO⟩
    rw [HX3.out, HU2.out]
    rw [HS2.out] at hO
    have HB3 := hid hO
    clear hO b0 b1 b2 b3 b4 c0 c1 c2 c3 c4
    have hb := HBOX.out.ext HB3.out.two.old; have b0 := hb.cell 0; have b1 := hb.cell 1; have b2 := hb.cell 2; have b3 := hb.cell 3; have b4 := hb.cell 4; have hc := HB3.out.blk; have c0 := hc.cell 0; have c1 := hc.cell 1; have c2 := hc.cell 2; have c3 := hc.cell 3; have c4 := hc.cell 4; simp at b0 b1 b2 b3 b4 c0 c1 c2 c3 c4; clear hb hc
    go_wp2_with fail
    refine (does_lB HB3.out (by omega) on 10 nn a b).mono ?_
    rintro r w8 ⟨rfl, hO⟩
    rw [HX4.out, HU3.out]
    rw [H2.out] at hO
    have HC0 := hid hO.two
    clear hO b0 b1 b2 b3 b4 c0 c1 c2 c3 c4
    go_wp2_with fail
    refine wp_loop_rounds 3 ?_
    rw [rounds_succ]
    go_wp2_with fail
    refine (Org2.does_mr HC0.out (by omega) 3).mono ?_
    rintro r v1 ⟨⟨xa0, xb0, rfl⟩, hO⟩
    have HC1 := hid hO
    clear hO
    go_wp2_with fail
    refine (Org2.does_mr HC1.out (by omega) 4).mono ?_
    rintro r v2 ⟨⟨xa1, xb1, rfl⟩, hO⟩
    have HC2 := hid hO
    clear hO
    go_wp2_with fail
    refine (Org2.does_ml HC2.out (by omega) 3).mono ?_
    rintro r v3 ⟨⟨xa2, xb2, rfl⟩, hO⟩
    have HC3 := hid hO
    clear hO
    go_wp2_with fail
    refine (Org2.does_ml HC3.out (by omega) 4).mono ?_
    rintro r v4 ⟨⟨xa3, xb3, rfl⟩, hO⟩
    have HC4 := hid hO
    clear hO
    go_wp2_with fail
    rw [rounds_succ]
    go_wp2_with fail
    refine (Org2.does_mr HC4.out (by omega) 3).mono ?_
    rintro r v5 ⟨⟨xa4, xb4, rfl⟩, hO⟩
    have HC5 := hid hO
    clear hO
    go_wp2_with fail
    refine (Org2.does_mr HC5.out (by omega) 4).mono ?_
    rintro r v6 ⟨⟨xa5, xb5, rfl⟩, hO⟩
    have HC6 := hid hO
    clear hO
    go_wp2_with fail
    refine (Org2.does_ml HC6.out (by omega) 3).mono ?_
    rintro r v7 ⟨⟨xa6, xb6, rfl⟩, hO⟩
    have HC7 := hid hO
    clear hO
    go_wp2_with fail
    refine (Org2.does_ml HC7.out (by omega) 4).mono ?_
    rintro r v8 ⟨⟨xa7, xb7, rfl⟩, hO⟩
    have HC8 := hid hO
    clear hO
    go_wp2_with fail
    rw [rounds_succ]
    have hm := mark_same HU4.out
    have hm2 := mark_same hm.1
    have he := hm2.2 2 (hm.2 2 (by have := HU5.out; omega))
    have hbd := HC8.out.inv2.ep
    obtain ⟨P4, hP4⟩ : ∃ P4, markS (markS S2) = P4 := ⟨_, rfl⟩
    obtain ⟨Q4, hQ4⟩ : ∃ Q4, markS (markS S) = Q4 := ⟨_, rfl⟩
    have HC9 : Hid (Org2 w0 v8 p P4 _ q Q4 _) := hid (by rw [← hP4, ← hQ4]; exact HC8.out)
    rw [hP4, hQ4] at he
    have hts : TellSame P4 Q4 := by rw [← hP4, ← hQ4]; exact hm2.1.symm
    have hbq : Q4.ep ≤ 60000 := by rw [← hQ4]; exact Nat.le_trans hbd (by omega)
    have heq : (P4.ep : Int) = (Q4.ep : Int) + 2 := by omega
    have HE := hid heq
    have HTS := hid hts
    have wq : IntKind.u64.wrap ((Q4.ep : Int) + 2) = (Q4.ep : Int) + 2 := by simp [IntKind.wrap, IntKind.bits, IntKind.signed]; omega
    clear hm hm2 he hbd hP4 hQ4 heq hts
    go_wp2_with (first | (go_at_call_of 36 p; refine (epoch_t HC9.out.left).mono ?_; rintro r z1 ⟨rfl, rfl⟩; rw [HE.out]) | (go_at_call_of 36 q; refine (epoch_t HC9.out.right).mono ?_; rintro r z2 ⟨rfl, rfl⟩) | (go_at_call 39; refine (same_any HC9.out (by omega) (by omega) HTS.out).mono ?_; rintro r z3 ⟨rfl, hE⟩; have HZ := hid (HC9.out.ext hE); clear hE))
    go_ret
    exact ⟨rfl, HX0.out.trans HZ.out.old⟩
  · have hbad : S1 = S := by rw [← hS1]; exact does_bad hy0
    have hyb : ((y1 : Int) != 0) = true := by rw [← hy1]; simpa using hy0
    have HX1 := hid hx1
    have HY1 := hid hy1
    have HS1 := hid (hS1.trans hbad)
    clear hJ hR hy0 hx1 hS1 hy1 hbad
    refine (does_lB HB.out (by omega) on 9 nn a b).mono ?_
    rintro r w5 ⟨rfl, hO⟩
    rw [HX1.out, HY1.out]
    rw [HS1.out] at hO
    have HC := hid hO.two
    clear hO
    go_wp2_with (go_at_call 38; refine (alike_any HC.out (by omega) (by omega) (TellSame.refl _) rfl).mono ?_; rintro r z ⟨rfl, hE⟩; have HZ := hid (HC.out.ext hE); clear hE)
    go_ret
    exact ⟨rfl, HX0.out.trans HZ.out.old⟩

set_option maxRecDepth 100000 in
set_option maxHeartbeats 16000000 in
theorem undone_11 (w : World) (ad : Option Addr) (len cap : Nat) (on nn : Int) (a b : ByteArray) (ops : Nat → OpS) (hops : OpsAt w ad len ops) (hT : Tab w) (hlen : len ≤ 9223372036854775807) :
    Calls Tryz.prog 6 #[.slice ad len cap, OpV on 11 a b nn] w fun e w' => e = .returned (.bool true) ∧ Ext w w' := by
  have hX0 : Ext w (w.alloc (.cells #[.int .i64 on, .int .i64 11, .string a, .string b, .int .i64 nn] 53)) := (Ext.refl w).alloc _
  have hbox := Blk.new w #[.int .i64 on, .int .i64 11, .string a, .string b, .int .i64 nn] 53
  obtain ⟨w0, hw0⟩ : ∃ w0, w.alloc (.cells #[.int .i64 on, .int .i64 11, .string a, .string b, .int .i64 nn] 53) = w0 := ⟨_, rfl⟩
  rw [hw0] at hX0 hbox
  have HOPS := hid (hops.ext hX0)
  have HT := hid (hT.ext hX0)
  have HBOX := hid hbox
  have HX0 := hid hX0
  obtain ⟨N, hN⟩ : ∃ N, min len 200 = N := ⟨_, rfl⟩
  have hN2 : N ≤ 200 := by omega
  have HNN := hid hN
  obtain ⟨S, hS⟩ : ∃ S, runTo ops N = S := ⟨_, rfl⟩
  have hinv : S.Inv N := hS ▸ inv_run ops N
  have HINV := hid hinv
  have HS := hid hS
  have HW0 := hid hw0
  have hm1 := made_any w0 ad len cap ops N hN.symm HOPS.out HT.out hlen
  have HM1 := hid hm1
  clear hops hT hX0 hbox hN hS hinv hw0 hm1
  go_enter Tryz.func6, Tryz.ntmps6
  go_wp2_with fail
  rw [HW0.out]
  refine HM1.out.mono ?_
  rintro r w1 ⟨p, own, rfl, hO, hE, hlo⟩
  rw [HS.out] at hO
  have HO1 := hid (OrgW.mk' (w0 := w0) hO HINV.out hE hlo)
  clear hO hE hlo
  go_wp2_with fail
  refine (made_any w1 ad len cap ops N HNN.out.symm (HOPS.out.ext HO1.out.old) (HT.out.ext HO1.out.old) hlen).mono ?_
  rintro r w2 ⟨q, own2, rfl, hO, hE, hlo⟩
  rw [HS.out] at hO
  have HO2 := hid (Org2.made HO1.out hE ⟨own2, hO, hlo⟩ HINV.out)
  clear hO hE hlo
  go_wp2_with (go_at_call 15; refine (wakes_any w2 (HT.out.ext HO2.out.old)).mono ?_; rintro r w3 ⟨rfl, hE⟩; have HO3 := hid (HO2.out.ext hE); clear hE; have hb4 := HBOX.out.ext HO3.out.old; have b0 := hb4.cell 0; have b1 := hb4.cell 1; have b2 := hb4.cell 2; have b3 := hb4.cell 3; have b4 := hb4.cell 4; have bl := hb4.lt; simp at b0 b1 b2 b3 b4; clear hb4)
  obtain ⟨hJ, hR, _, _⟩ := HO3.out.left.facts
  have hrk : S.rk.length ≤ 64 := by rw [HINV.out.rl]; exact HINV.out.rl64
  have HB := hid (Org2.boxed (c := w3.heap.size) HO3.out ((Ext.refl w3).alloc _) (Blk.new w3 #[.int .i64 on, .int .i64 12, .string a, .string b, .int .i64 nn] 53) (Nat.le_refl _))
  have hep := HINV.out.ep
  obtain ⟨S1, hS1⟩ : ∃ S1, (S.does 11 a b nn).2 = S1 := ⟨_, rfl⟩
  obtain ⟨x1, hx1⟩ : ∃ x, (S.does 11 a b nn).1.1 = x := ⟨_, rfl⟩
  obtain ⟨y1, hy1⟩ : ∃ x, (S.does 11 a b nn).1.2 = x := ⟨_, rfl⟩
  by_cases hy0 : (S.does 11 a b nn).1.2 = 0
  · have U : UndoneBy (fun S => ((S.does 11 a b nn).1.2, (S.does 11 a b nn).2)) (fun S => ((S.does 12 a b nn).1.2, (S.does 12 a b nn).2)) S := bar_undone hy0
    obtain ⟨u1, u2, u3, u4, u5⟩ := U
    dsimp only at u1 u2 u3 u4 u5
    rw [hS1] at u1 u2 u3 u4 u5
    have s1 := does_bad u1
    obtain ⟨S2, hS2⟩ : ∃ S2, (S1.does 12 a b nn).2 = S2 := ⟨_, rfl⟩
    rw [hS2] at u3 u4 u5
    have s2 : (S2.does 12 a b nn).2 = S2 := does_bad (by rw [u3]; decide)
    obtain ⟨x2, hx2⟩ : ∃ x, (S1.does 11 a b nn).1.1 = x := ⟨_, rfl⟩
    obtain ⟨y2, hy2⟩ : ∃ x, (S1.does 11 a b nn).1.2 = x := ⟨_, rfl⟩
    obtain ⟨x3, hx3⟩ : ∃ x, (S1.does 12 a b nn).1.1 = x := ⟨_, rfl⟩
    obtain ⟨x4, hx4⟩ : ∃ x, (S2.does 12 a b nn).1.1 = x := ⟨_, rfl⟩
    have hyb : ((y2 : Int) != 0) = true := by rw [← hy2]; simpa using u1
    have HY0 := hid hy0
    have HX1 := hid hx1
    have HS1 := hid hS1
    have HX2 := hid hx2
    have HY2 := hid hy2
    have HX3 := hid hx3
    have HX4 := hid hx4
    have HS2 := hid hS2
    have H1 := hid s1
    have H2 := hid s2
    have HU2 := hid u2
    have HU3 := hid u3
    have HU4 := hid u4
    have HU5 := hid u5
    clear hJ hR hy0 hx1 hS1 hx2 hy2 hx3 hx4 hS2 s1 s2 u1 u2 u3 u4 u5 hy1
    refine (does_lB HB.out (by omega) on 11 nn a b).mono ?_
    rintro r w5 ⟨rfl, hO⟩
    rw [HX1.out, HY0.out]
    rw [HS1.out] at hO
    have HB1 := hid hO
    clear hO b0 b1 b2 b3 b4
    have hb := HBOX.out.ext HB1.out.two.old; have b0 := hb.cell 0; have b1 := hb.cell 1; have b2 := hb.cell 2; have b3 := hb.cell 3; have b4 := hb.cell 4; have hc := HB1.out.blk; have c0 := hc.cell 0; have c1 := hc.cell 1; have c2 := hc.cell 2; have c3 := hc.cell 3; have c4 := hc.cell 4; simp at b0 b1 b2 b3 b4 c0 c1 c2 c3 c4; clear hb hc
    go_wp2_with fail
    refine (does_lB HB1.out (by omega) on 11 nn a b).mono ?_
    rintro r w6 ⟨rfl, hO⟩
    rw [HX2.out, HY2.out]
    rw [H1.out] at hO
    have HB2 := hid hO
    clear hO b0 b1 b2 b3 b4 c0 c1 c2 c3 c4
    have hb := HBOX.out.ext HB2.out.two.old; have b0 := hb.cell 0; have b1 := hb.cell 1; have b2 := hb.cell 2; have b3 := hb.cell 3; have b4 := hb.cell 4; have hc := HB2.out.blk; have c0 := hc.cell 0; have c1 := hc.cell 1; have c2 := hc.cell 2; have c3 := hc.cell 3; have c4 := hc.cell 4; simp at b0 b1 b2 b3 b4 c0 c1 c2 c3 c4; clear hb hc
    go_wp2_with fail
    refine (does_lB HB2.out (by omega) on 12 nn a b).mono ?_
    rintro r w7 ⟨rfl, hO⟩
    rw [HX3.out, HU2.out]
    rw [HS2.out] at hO
    have HB3 := hid hO
    clear hO b0 b1 b2 b3 b4 c0 c1 c2 c3 c4
    have hb := HBOX.out.ext HB3.out.two.old; have b0 := hb.cell 0; have b1 := hb.cell 1; have b2 := hb.cell 2; have b3 := hb.cell 3; have b4 := hb.cell 4; have hc := HB3.out.blk; have c0 := hc.cell 0; have c1 := hc.cell 1; have c2 := hc.cell 2; have c3 := hc.cell 3; have c4 := hc.cell 4; simp at b0 b1 b2 b3 b4 c0 c1 c2 c3 c4; clear hb hc
    go_wp2_with fail
    refine (does_lB HB3.out (by omega) on 12 nn a b).mono ?_
    rintro r w8 ⟨rfl, hO⟩
    rw [HX4.out, HU3.out]
    rw [H2.out] at hO
    have HC0 := hid hO.two
    clear hO b0 b1 b2 b3 b4 c0 c1 c2 c3 c4
    go_wp2_with fail
    refine wp_loop_rounds 3 ?_
    rw [rounds_succ]
    go_wp2_with fail
    refine (Org2.does_mr HC0.out (by omega) 3).mono ?_
    rintro r v1 ⟨⟨xa0, xb0, rfl⟩, hO⟩
    have HC1 := hid hO
    clear hO
    go_wp2_with fail
    refine (Org2.does_mr HC1.out (by omega) 4).mono ?_
    rintro r v2 ⟨⟨xa1, xb1, rfl⟩, hO⟩
    have HC2 := hid hO
    clear hO
    go_wp2_with fail
    refine (Org2.does_ml HC2.out (by omega) 3).mono ?_
    rintro r v3 ⟨⟨xa2, xb2, rfl⟩, hO⟩
    have HC3 := hid hO
    clear hO
    go_wp2_with fail
    refine (Org2.does_ml HC3.out (by omega) 4).mono ?_
    rintro r v4 ⟨⟨xa3, xb3, rfl⟩, hO⟩
    have HC4 := hid hO
    clear hO
    go_wp2_with fail
    rw [rounds_succ]
    go_wp2_with fail
    refine (Org2.does_mr HC4.out (by omega) 3).mono ?_
    rintro r v5 ⟨⟨xa4, xb4, rfl⟩, hO⟩
    have HC5 := hid hO
    clear hO
    go_wp2_with fail
    refine (Org2.does_mr HC5.out (by omega) 4).mono ?_
    rintro r v6 ⟨⟨xa5, xb5, rfl⟩, hO⟩
    have HC6 := hid hO
    clear hO
    go_wp2_with fail
    refine (Org2.does_ml HC6.out (by omega) 3).mono ?_
    rintro r v7 ⟨⟨xa6, xb6, rfl⟩, hO⟩
    have HC7 := hid hO
    clear hO
    go_wp2_with fail
    refine (Org2.does_ml HC7.out (by omega) 4).mono ?_
    rintro r v8 ⟨⟨xa7, xb7, rfl⟩, hO⟩
    have HC8 := hid hO
    clear hO
    go_wp2_with fail
    rw [rounds_succ]
    have hm := mark_same HU4.out
    have hm2 := mark_same hm.1
    have he := hm2.2 2 (hm.2 2 (by have := HU5.out; omega))
    have hbd := HC8.out.inv2.ep
    obtain ⟨P4, hP4⟩ : ∃ P4, markS (markS S2) = P4 := ⟨_, rfl⟩
    obtain ⟨Q4, hQ4⟩ : ∃ Q4, markS (markS S) = Q4 := ⟨_, rfl⟩
    have HC9 : Hid (Org2 w0 v8 p P4 _ q Q4 _) := hid (by rw [← hP4, ← hQ4]; exact HC8.out)
    rw [hP4, hQ4] at he
    have hts : TellSame P4 Q4 := by rw [← hP4, ← hQ4]; exact hm2.1.symm
    have hbq : Q4.ep ≤ 60000 := by rw [← hQ4]; exact Nat.le_trans hbd (by omega)
    have heq : (P4.ep : Int) = (Q4.ep : Int) + 2 := by omega
    have HE := hid heq
    have HTS := hid hts
    have wq : IntKind.u64.wrap ((Q4.ep : Int) + 2) = (Q4.ep : Int) + 2 := by simp [IntKind.wrap, IntKind.bits, IntKind.signed]; omega
    clear hm hm2 he hbd hP4 hQ4 heq hts
    go_wp2_with (first | (go_at_call_of 36 p; refine (epoch_t HC9.out.left).mono ?_; rintro r z1 ⟨rfl, rfl⟩; rw [HE.out]) | (go_at_call_of 36 q; refine (epoch_t HC9.out.right).mono ?_; rintro r z2 ⟨rfl, rfl⟩) | (go_at_call 39; refine (same_any HC9.out (by omega) (by omega) HTS.out).mono ?_; rintro r z3 ⟨rfl, hE⟩; have HZ := hid (HC9.out.ext hE); clear hE))
    go_ret
    exact ⟨rfl, HX0.out.trans HZ.out.old⟩
  · have hbad : S1 = S := by rw [← hS1]; exact does_bad hy0
    have hyb : ((y1 : Int) != 0) = true := by rw [← hy1]; simpa using hy0
    have HX1 := hid hx1
    have HY1 := hid hy1
    have HS1 := hid (hS1.trans hbad)
    clear hJ hR hy0 hx1 hS1 hy1 hbad
    refine (does_lB HB.out (by omega) on 11 nn a b).mono ?_
    rintro r w5 ⟨rfl, hO⟩
    rw [HX1.out, HY1.out]
    rw [HS1.out] at hO
    have HC := hid hO.two
    clear hO
    go_wp2_with (go_at_call 38; refine (alike_any HC.out (by omega) (by omega) (TellSame.refl _) rfl).mono ?_; rintro r z ⟨rfl, hE⟩; have HZ := hid (HC.out.ext hE); clear hE)
    go_ret
    exact ⟨rfl, HX0.out.trans HZ.out.old⟩

set_option maxRecDepth 100000 in
set_option maxHeartbeats 16000000 in
theorem undone_13 (w : World) (ad : Option Addr) (len cap : Nat) (on nn : Int) (a b : ByteArray) (ops : Nat → OpS) (hops : OpsAt w ad len ops) (hT : Tab w) (hlen : len ≤ 9223372036854775807) :
    Calls Tryz.prog 6 #[.slice ad len cap, OpV on 13 a b nn] w fun e w' => e = .returned (.bool true) ∧ Ext w w' := by
  have hX0 : Ext w (w.alloc (.cells #[.int .i64 on, .int .i64 13, .string a, .string b, .int .i64 nn] 53)) := (Ext.refl w).alloc _
  have hbox := Blk.new w #[.int .i64 on, .int .i64 13, .string a, .string b, .int .i64 nn] 53
  obtain ⟨w0, hw0⟩ : ∃ w0, w.alloc (.cells #[.int .i64 on, .int .i64 13, .string a, .string b, .int .i64 nn] 53) = w0 := ⟨_, rfl⟩
  rw [hw0] at hX0 hbox
  have HOPS := hid (hops.ext hX0)
  have HT := hid (hT.ext hX0)
  have HBOX := hid hbox
  have HX0 := hid hX0
  obtain ⟨N, hN⟩ : ∃ N, min len 200 = N := ⟨_, rfl⟩
  have hN2 : N ≤ 200 := by omega
  have HNN := hid hN
  obtain ⟨S, hS⟩ : ∃ S, runTo ops N = S := ⟨_, rfl⟩
  have hinv : S.Inv N := hS ▸ inv_run ops N
  have HINV := hid hinv
  have HS := hid hS
  have HW0 := hid hw0
  have hm1 := made_any w0 ad len cap ops N hN.symm HOPS.out HT.out hlen
  have HM1 := hid hm1
  clear hops hT hX0 hbox hN hS hinv hw0 hm1
  go_enter Tryz.func6, Tryz.ntmps6
  go_wp2_with fail
  rw [HW0.out]
  refine HM1.out.mono ?_
  rintro r w1 ⟨p, own, rfl, hO, hE, hlo⟩
  rw [HS.out] at hO
  have HO1 := hid (OrgW.mk' (w0 := w0) hO HINV.out hE hlo)
  clear hO hE hlo
  go_wp2_with fail
  refine (made_any w1 ad len cap ops N HNN.out.symm (HOPS.out.ext HO1.out.old) (HT.out.ext HO1.out.old) hlen).mono ?_
  rintro r w2 ⟨q, own2, rfl, hO, hE, hlo⟩
  rw [HS.out] at hO
  have HO2 := hid (Org2.made HO1.out hE ⟨own2, hO, hlo⟩ HINV.out)
  clear hO hE hlo
  go_wp2_with (go_at_call 15; refine (wakes_any w2 (HT.out.ext HO2.out.old)).mono ?_; rintro r w3 ⟨rfl, hE⟩; have HO3 := hid (HO2.out.ext hE); clear hE; have hb4 := HBOX.out.ext HO3.out.old; have b0 := hb4.cell 0; have b1 := hb4.cell 1; have b2 := hb4.cell 2; have b3 := hb4.cell 3; have b4 := hb4.cell 4; have bl := hb4.lt; simp at b0 b1 b2 b3 b4; clear hb4)
  obtain ⟨hJ, hR, _, _⟩ := HO3.out.left.facts
  have hrk : S.rk.length ≤ 64 := by rw [HINV.out.rl]; exact HINV.out.rl64
  have HB := hid (Org2.boxed (c := w3.heap.size) HO3.out ((Ext.refl w3).alloc _) (Blk.new w3 #[.int .i64 on, .int .i64 14, .string a, .string b, .int .i64 nn] 53) (Nat.le_refl _))
  have hep := HINV.out.ep
  obtain ⟨S1, hS1⟩ : ∃ S1, (S.does 13 a b nn).2 = S1 := ⟨_, rfl⟩
  obtain ⟨x1, hx1⟩ : ∃ x, (S.does 13 a b nn).1.1 = x := ⟨_, rfl⟩
  obtain ⟨y1, hy1⟩ : ∃ x, (S.does 13 a b nn).1.2 = x := ⟨_, rfl⟩
  by_cases hy0 : (S.does 13 a b nn).1.2 = 0
  · have U : UndoneBy (fun S => ((S.does 13 a b nn).1.2, (S.does 13 a b nn).2)) (fun S => ((S.does 14 a b nn).1.2, (S.does 14 a b nn).2)) S := lend_undone hy0
    obtain ⟨u1, u2, u3, u4, u5⟩ := U
    dsimp only at u1 u2 u3 u4 u5
    rw [hS1] at u1 u2 u3 u4 u5
    have s1 := does_bad u1
    obtain ⟨S2, hS2⟩ : ∃ S2, (S1.does 14 a b nn).2 = S2 := ⟨_, rfl⟩
    rw [hS2] at u3 u4 u5
    have s2 : (S2.does 14 a b nn).2 = S2 := does_bad (by rw [u3]; decide)
    obtain ⟨x2, hx2⟩ : ∃ x, (S1.does 13 a b nn).1.1 = x := ⟨_, rfl⟩
    obtain ⟨y2, hy2⟩ : ∃ x, (S1.does 13 a b nn).1.2 = x := ⟨_, rfl⟩
    obtain ⟨x3, hx3⟩ : ∃ x, (S1.does 14 a b nn).1.1 = x := ⟨_, rfl⟩
    obtain ⟨x4, hx4⟩ : ∃ x, (S2.does 14 a b nn).1.1 = x := ⟨_, rfl⟩
    have hyb : ((y2 : Int) != 0) = true := by rw [← hy2]; simpa using u1
    have HY0 := hid hy0
    have HX1 := hid hx1
    have HS1 := hid hS1
    have HX2 := hid hx2
    have HY2 := hid hy2
    have HX3 := hid hx3
    have HX4 := hid hx4
    have HS2 := hid hS2
    have H1 := hid s1
    have H2 := hid s2
    have HU2 := hid u2
    have HU3 := hid u3
    have HU4 := hid u4
    have HU5 := hid u5
    clear hJ hR hy0 hx1 hS1 hx2 hy2 hx3 hx4 hS2 s1 s2 u1 u2 u3 u4 u5 hy1
    refine (does_lB HB.out (by omega) on 13 nn a b).mono ?_
    rintro r w5 ⟨rfl, hO⟩
    rw [HX1.out, HY0.out]
    rw [HS1.out] at hO
    have HB1 := hid hO
    clear hO b0 b1 b2 b3 b4
    have hb := HBOX.out.ext HB1.out.two.old; have b0 := hb.cell 0; have b1 := hb.cell 1; have b2 := hb.cell 2; have b3 := hb.cell 3; have b4 := hb.cell 4; have hc := HB1.out.blk; have c0 := hc.cell 0; have c1 := hc.cell 1; have c2 := hc.cell 2; have c3 := hc.cell 3; have c4 := hc.cell 4; simp at b0 b1 b2 b3 b4 c0 c1 c2 c3 c4; clear hb hc
    go_wp2_with fail
    refine (does_lB HB1.out (by omega) on 13 nn a b).mono ?_
    rintro r w6 ⟨rfl, hO⟩
    rw [HX2.out, HY2.out]
    rw [H1.out] at hO
    have HB2 := hid hO
    clear hO b0 b1 b2 b3 b4 c0 c1 c2 c3 c4
    have hb := HBOX.out.ext HB2.out.two.old; have b0 := hb.cell 0; have b1 := hb.cell 1; have b2 := hb.cell 2; have b3 := hb.cell 3; have b4 := hb.cell 4; have hc := HB2.out.blk; have c0 := hc.cell 0; have c1 := hc.cell 1; have c2 := hc.cell 2; have c3 := hc.cell 3; have c4 := hc.cell 4; simp at b0 b1 b2 b3 b4 c0 c1 c2 c3 c4; clear hb hc
    go_wp2_with fail
    refine (does_lB HB2.out (by omega) on 14 nn a b).mono ?_
    rintro r w7 ⟨rfl, hO⟩
    rw [HX3.out, HU2.out]
    rw [HS2.out] at hO
    have HB3 := hid hO
    clear hO b0 b1 b2 b3 b4 c0 c1 c2 c3 c4
    have hb := HBOX.out.ext HB3.out.two.old; have b0 := hb.cell 0; have b1 := hb.cell 1; have b2 := hb.cell 2; have b3 := hb.cell 3; have b4 := hb.cell 4; have hc := HB3.out.blk; have c0 := hc.cell 0; have c1 := hc.cell 1; have c2 := hc.cell 2; have c3 := hc.cell 3; have c4 := hc.cell 4; simp at b0 b1 b2 b3 b4 c0 c1 c2 c3 c4; clear hb hc
    go_wp2_with fail
    refine (does_lB HB3.out (by omega) on 14 nn a b).mono ?_
    rintro r w8 ⟨rfl, hO⟩
    rw [HX4.out, HU3.out]
    rw [H2.out] at hO
    have HC0 := hid hO.two
    clear hO b0 b1 b2 b3 b4 c0 c1 c2 c3 c4
    go_wp2_with fail
    refine wp_loop_rounds 3 ?_
    rw [rounds_succ]
    go_wp2_with fail
    refine (Org2.does_mr HC0.out (by omega) 3).mono ?_
    rintro r v1 ⟨⟨xa0, xb0, rfl⟩, hO⟩
    have HC1 := hid hO
    clear hO
    go_wp2_with fail
    refine (Org2.does_mr HC1.out (by omega) 4).mono ?_
    rintro r v2 ⟨⟨xa1, xb1, rfl⟩, hO⟩
    have HC2 := hid hO
    clear hO
    go_wp2_with fail
    refine (Org2.does_ml HC2.out (by omega) 3).mono ?_
    rintro r v3 ⟨⟨xa2, xb2, rfl⟩, hO⟩
    have HC3 := hid hO
    clear hO
    go_wp2_with fail
    refine (Org2.does_ml HC3.out (by omega) 4).mono ?_
    rintro r v4 ⟨⟨xa3, xb3, rfl⟩, hO⟩
    have HC4 := hid hO
    clear hO
    go_wp2_with fail
    rw [rounds_succ]
    go_wp2_with fail
    refine (Org2.does_mr HC4.out (by omega) 3).mono ?_
    rintro r v5 ⟨⟨xa4, xb4, rfl⟩, hO⟩
    have HC5 := hid hO
    clear hO
    go_wp2_with fail
    refine (Org2.does_mr HC5.out (by omega) 4).mono ?_
    rintro r v6 ⟨⟨xa5, xb5, rfl⟩, hO⟩
    have HC6 := hid hO
    clear hO
    go_wp2_with fail
    refine (Org2.does_ml HC6.out (by omega) 3).mono ?_
    rintro r v7 ⟨⟨xa6, xb6, rfl⟩, hO⟩
    have HC7 := hid hO
    clear hO
    go_wp2_with fail
    refine (Org2.does_ml HC7.out (by omega) 4).mono ?_
    rintro r v8 ⟨⟨xa7, xb7, rfl⟩, hO⟩
    have HC8 := hid hO
    clear hO
    go_wp2_with fail
    rw [rounds_succ]
    have hm := mark_same HU4.out
    have hm2 := mark_same hm.1
    have he := hm2.2 2 (hm.2 2 (by have := HU5.out; omega))
    have hbd := HC8.out.inv2.ep
    obtain ⟨P4, hP4⟩ : ∃ P4, markS (markS S2) = P4 := ⟨_, rfl⟩
    obtain ⟨Q4, hQ4⟩ : ∃ Q4, markS (markS S) = Q4 := ⟨_, rfl⟩
    have HC9 : Hid (Org2 w0 v8 p P4 _ q Q4 _) := hid (by rw [← hP4, ← hQ4]; exact HC8.out)
    rw [hP4, hQ4] at he
    have hts : TellSame P4 Q4 := by rw [← hP4, ← hQ4]; exact hm2.1.symm
    have hbq : Q4.ep ≤ 60000 := by rw [← hQ4]; exact Nat.le_trans hbd (by omega)
    have heq : (P4.ep : Int) = (Q4.ep : Int) + 2 := by omega
    have HE := hid heq
    have HTS := hid hts
    have wq : IntKind.u64.wrap ((Q4.ep : Int) + 2) = (Q4.ep : Int) + 2 := by simp [IntKind.wrap, IntKind.bits, IntKind.signed]; omega
    clear hm hm2 he hbd hP4 hQ4 heq hts
    go_wp2_with (first | (go_at_call_of 36 p; refine (epoch_t HC9.out.left).mono ?_; rintro r z1 ⟨rfl, rfl⟩; rw [HE.out]) | (go_at_call_of 36 q; refine (epoch_t HC9.out.right).mono ?_; rintro r z2 ⟨rfl, rfl⟩) | (go_at_call 39; refine (same_any HC9.out (by omega) (by omega) HTS.out).mono ?_; rintro r z3 ⟨rfl, hE⟩; have HZ := hid (HC9.out.ext hE); clear hE))
    go_ret
    exact ⟨rfl, HX0.out.trans HZ.out.old⟩
  · have hbad : S1 = S := by rw [← hS1]; exact does_bad hy0
    have hyb : ((y1 : Int) != 0) = true := by rw [← hy1]; simpa using hy0
    have HX1 := hid hx1
    have HY1 := hid hy1
    have HS1 := hid (hS1.trans hbad)
    clear hJ hR hy0 hx1 hS1 hy1 hbad
    refine (does_lB HB.out (by omega) on 13 nn a b).mono ?_
    rintro r w5 ⟨rfl, hO⟩
    rw [HX1.out, HY1.out]
    rw [HS1.out] at hO
    have HC := hid hO.two
    clear hO
    go_wp2_with (go_at_call 38; refine (alike_any HC.out (by omega) (by omega) (TellSame.refl _) rfl).mono ?_; rintro r z ⟨rfl, hE⟩; have HZ := hid (HC.out.ext hE); clear hE)
    go_ret
    exact ⟨rfl, HX0.out.trans HZ.out.old⟩

set_option maxRecDepth 100000 in
set_option maxHeartbeats 16000000 in
theorem undone_15 (w : World) (ad : Option Addr) (len cap : Nat) (on nn : Int) (a b : ByteArray) (ops : Nat → OpS) (hops : OpsAt w ad len ops) (hT : Tab w) (hlen : len ≤ 9223372036854775807) :
    Calls Tryz.prog 6 #[.slice ad len cap, OpV on 15 a b nn] w fun e w' => e = .returned (.bool true) ∧ Ext w w' := by
  have hX0 : Ext w (w.alloc (.cells #[.int .i64 on, .int .i64 15, .string a, .string b, .int .i64 nn] 53)) := (Ext.refl w).alloc _
  have hbox := Blk.new w #[.int .i64 on, .int .i64 15, .string a, .string b, .int .i64 nn] 53
  obtain ⟨w0, hw0⟩ : ∃ w0, w.alloc (.cells #[.int .i64 on, .int .i64 15, .string a, .string b, .int .i64 nn] 53) = w0 := ⟨_, rfl⟩
  rw [hw0] at hX0 hbox
  have HOPS := hid (hops.ext hX0)
  have HT := hid (hT.ext hX0)
  have HBOX := hid hbox
  have HX0 := hid hX0
  obtain ⟨N, hN⟩ : ∃ N, min len 200 = N := ⟨_, rfl⟩
  have hN2 : N ≤ 200 := by omega
  have HNN := hid hN
  obtain ⟨S, hS⟩ : ∃ S, runTo ops N = S := ⟨_, rfl⟩
  have hinv : S.Inv N := hS ▸ inv_run ops N
  have HINV := hid hinv
  have HS := hid hS
  have HW0 := hid hw0
  have hm1 := made_any w0 ad len cap ops N hN.symm HOPS.out HT.out hlen
  have HM1 := hid hm1
  clear hops hT hX0 hbox hN hS hinv hw0 hm1
  go_enter Tryz.func6, Tryz.ntmps6
  go_wp2_with fail
  rw [HW0.out]
  refine HM1.out.mono ?_
  rintro r w1 ⟨p, own, rfl, hO, hE, hlo⟩
  rw [HS.out] at hO
  have HO1 := hid (OrgW.mk' (w0 := w0) hO HINV.out hE hlo)
  clear hO hE hlo
  go_wp2_with fail
  refine (made_any w1 ad len cap ops N HNN.out.symm (HOPS.out.ext HO1.out.old) (HT.out.ext HO1.out.old) hlen).mono ?_
  rintro r w2 ⟨q, own2, rfl, hO, hE, hlo⟩
  rw [HS.out] at hO
  have HO2 := hid (Org2.made HO1.out hE ⟨own2, hO, hlo⟩ HINV.out)
  clear hO hE hlo
  go_wp2_with (go_at_call 15; refine (wakes_any w2 (HT.out.ext HO2.out.old)).mono ?_; rintro r w3 ⟨rfl, hE⟩; have HO3 := hid (HO2.out.ext hE); clear hE; have hb4 := HBOX.out.ext HO3.out.old; have b0 := hb4.cell 0; have b1 := hb4.cell 1; have b2 := hb4.cell 2; have b3 := hb4.cell 3; have b4 := hb4.cell 4; have bl := hb4.lt; simp at b0 b1 b2 b3 b4; clear hb4)
  obtain ⟨hJ, hR, _, _⟩ := HO3.out.left.facts
  have hrk : S.rk.length ≤ 64 := by rw [HINV.out.rl]; exact HINV.out.rl64
  have HB := hid (Org2.boxed (c := w3.heap.size) HO3.out ((Ext.refl w3).alloc _) (Blk.new w3 #[.int .i64 on, .int .i64 16, .string a, .string b, .int .i64 nn] 53) (Nat.le_refl _))
  have hep := HINV.out.ep
  obtain ⟨S1, hS1⟩ : ∃ S1, (S.does 15 a b nn).2 = S1 := ⟨_, rfl⟩
  obtain ⟨x1, hx1⟩ : ∃ x, (S.does 15 a b nn).1.1 = x := ⟨_, rfl⟩
  obtain ⟨y1, hy1⟩ : ∃ x, (S.does 15 a b nn).1.2 = x := ⟨_, rfl⟩
  by_cases hy0 : (S.does 15 a b nn).1.2 = 0
  · have U : UndoneBy (fun S => ((S.does 15 a b nn).1.2, (S.does 15 a b nn).2)) (fun S => ((S.does 16 a b nn).1.2, (S.does 16 a b nn).2)) S := rest_undone hy0
    obtain ⟨u1, u2, u3, u4, u5⟩ := U
    dsimp only at u1 u2 u3 u4 u5
    rw [hS1] at u1 u2 u3 u4 u5
    have s1 := does_bad u1
    obtain ⟨S2, hS2⟩ : ∃ S2, (S1.does 16 a b nn).2 = S2 := ⟨_, rfl⟩
    rw [hS2] at u3 u4 u5
    have s2 : (S2.does 16 a b nn).2 = S2 := does_bad (by rw [u3]; decide)
    obtain ⟨x2, hx2⟩ : ∃ x, (S1.does 15 a b nn).1.1 = x := ⟨_, rfl⟩
    obtain ⟨y2, hy2⟩ : ∃ x, (S1.does 15 a b nn).1.2 = x := ⟨_, rfl⟩
    obtain ⟨x3, hx3⟩ : ∃ x, (S1.does 16 a b nn).1.1 = x := ⟨_, rfl⟩
    obtain ⟨x4, hx4⟩ : ∃ x, (S2.does 16 a b nn).1.1 = x := ⟨_, rfl⟩
    have hyb : ((y2 : Int) != 0) = true := by rw [← hy2]; simpa using u1
    have HY0 := hid hy0
    have HX1 := hid hx1
    have HS1 := hid hS1
    have HX2 := hid hx2
    have HY2 := hid hy2
    have HX3 := hid hx3
    have HX4 := hid hx4
    have HS2 := hid hS2
    have H1 := hid s1
    have H2 := hid s2
    have HU2 := hid u2
    have HU3 := hid u3
    have HU4 := hid u4
    have HU5 := hid u5
    clear hJ hR hy0 hx1 hS1 hx2 hy2 hx3 hx4 hS2 s1 s2 u1 u2 u3 u4 u5 hy1
    refine (does_lB HB.out (by omega) on 15 nn a b).mono ?_
    rintro r w5 ⟨rfl, hO⟩
    rw [HX1.out, HY0.out]
    rw [HS1.out] at hO
    have HB1 := hid hO
    clear hO b0 b1 b2 b3 b4
    have hb := HBOX.out.ext HB1.out.two.old; have b0 := hb.cell 0; have b1 := hb.cell 1; have b2 := hb.cell 2; have b3 := hb.cell 3; have b4 := hb.cell 4; have hc := HB1.out.blk; have c0 := hc.cell 0; have c1 := hc.cell 1; have c2 := hc.cell 2; have c3 := hc.cell 3; have c4 := hc.cell 4; simp at b0 b1 b2 b3 b4 c0 c1 c2 c3 c4; clear hb hc
    go_wp2_with fail
    refine (does_lB HB1.out (by omega) on 15 nn a b).mono ?_
    rintro r w6 ⟨rfl, hO⟩
    rw [HX2.out, HY2.out]
    rw [H1.out] at hO
    have HB2 := hid hO
    clear hO b0 b1 b2 b3 b4 c0 c1 c2 c3 c4
    have hb := HBOX.out.ext HB2.out.two.old; have b0 := hb.cell 0; have b1 := hb.cell 1; have b2 := hb.cell 2; have b3 := hb.cell 3; have b4 := hb.cell 4; have hc := HB2.out.blk; have c0 := hc.cell 0; have c1 := hc.cell 1; have c2 := hc.cell 2; have c3 := hc.cell 3; have c4 := hc.cell 4; simp at b0 b1 b2 b3 b4 c0 c1 c2 c3 c4; clear hb hc
    go_wp2_with fail
    refine (does_lB HB2.out (by omega) on 16 nn a b).mono ?_
    rintro r w7 ⟨rfl, hO⟩
    rw [HX3.out, HU2.out]
    rw [HS2.out] at hO
    have HB3 := hid hO
    clear hO b0 b1 b2 b3 b4 c0 c1 c2 c3 c4
    have hb := HBOX.out.ext HB3.out.two.old; have b0 := hb.cell 0; have b1 := hb.cell 1; have b2 := hb.cell 2; have b3 := hb.cell 3; have b4 := hb.cell 4; have hc := HB3.out.blk; have c0 := hc.cell 0; have c1 := hc.cell 1; have c2 := hc.cell 2; have c3 := hc.cell 3; have c4 := hc.cell 4; simp at b0 b1 b2 b3 b4 c0 c1 c2 c3 c4; clear hb hc
    go_wp2_with fail
    refine (does_lB HB3.out (by omega) on 16 nn a b).mono ?_
    rintro r w8 ⟨rfl, hO⟩
    rw [HX4.out, HU3.out]
    rw [H2.out] at hO
    have HC0 := hid hO.two
    clear hO b0 b1 b2 b3 b4 c0 c1 c2 c3 c4
    go_wp2_with fail
    refine wp_loop_rounds 3 ?_
    rw [rounds_succ]
    go_wp2_with fail
    refine (Org2.does_mr HC0.out (by omega) 3).mono ?_
    rintro r v1 ⟨⟨xa0, xb0, rfl⟩, hO⟩
    have HC1 := hid hO
    clear hO
    go_wp2_with fail
    refine (Org2.does_mr HC1.out (by omega) 4).mono ?_
    rintro r v2 ⟨⟨xa1, xb1, rfl⟩, hO⟩
    have HC2 := hid hO
    clear hO
    go_wp2_with fail
    refine (Org2.does_ml HC2.out (by omega) 3).mono ?_
    rintro r v3 ⟨⟨xa2, xb2, rfl⟩, hO⟩
    have HC3 := hid hO
    clear hO
    go_wp2_with fail
    refine (Org2.does_ml HC3.out (by omega) 4).mono ?_
    rintro r v4 ⟨⟨xa3, xb3, rfl⟩, hO⟩
    have HC4 := hid hO
    clear hO
    go_wp2_with fail
    rw [rounds_succ]
    go_wp2_with fail
    refine (Org2.does_mr HC4.out (by omega) 3).mono ?_
    rintro r v5 ⟨⟨xa4, xb4, rfl⟩, hO⟩
    have HC5 := hid hO
    clear hO
    go_wp2_with fail
    refine (Org2.does_mr HC5.out (by omega) 4).mono ?_
    rintro r v6 ⟨⟨xa5, xb5, rfl⟩, hO⟩
    have HC6 := hid hO
    clear hO
    go_wp2_with fail
    refine (Org2.does_ml HC6.out (by omega) 3).mono ?_
    rintro r v7 ⟨⟨xa6, xb6, rfl⟩, hO⟩
    have HC7 := hid hO
    clear hO
    go_wp2_with fail
    refine (Org2.does_ml HC7.out (by omega) 4).mono ?_
    rintro r v8 ⟨⟨xa7, xb7, rfl⟩, hO⟩
    have HC8 := hid hO
    clear hO
    go_wp2_with fail
    rw [rounds_succ]
    have hm := mark_same HU4.out
    have hm2 := mark_same hm.1
    have he := hm2.2 2 (hm.2 2 (by have := HU5.out; omega))
    have hbd := HC8.out.inv2.ep
    obtain ⟨P4, hP4⟩ : ∃ P4, markS (markS S2) = P4 := ⟨_, rfl⟩
    obtain ⟨Q4, hQ4⟩ : ∃ Q4, markS (markS S) = Q4 := ⟨_, rfl⟩
    have HC9 : Hid (Org2 w0 v8 p P4 _ q Q4 _) := hid (by rw [← hP4, ← hQ4]; exact HC8.out)
    rw [hP4, hQ4] at he
    have hts : TellSame P4 Q4 := by rw [← hP4, ← hQ4]; exact hm2.1.symm
    have hbq : Q4.ep ≤ 60000 := by rw [← hQ4]; exact Nat.le_trans hbd (by omega)
    have heq : (P4.ep : Int) = (Q4.ep : Int) + 2 := by omega
    have HE := hid heq
    have HTS := hid hts
    have wq : IntKind.u64.wrap ((Q4.ep : Int) + 2) = (Q4.ep : Int) + 2 := by simp [IntKind.wrap, IntKind.bits, IntKind.signed]; omega
    clear hm hm2 he hbd hP4 hQ4 heq hts
    go_wp2_with (first | (go_at_call_of 36 p; refine (epoch_t HC9.out.left).mono ?_; rintro r z1 ⟨rfl, rfl⟩; rw [HE.out]) | (go_at_call_of 36 q; refine (epoch_t HC9.out.right).mono ?_; rintro r z2 ⟨rfl, rfl⟩) | (go_at_call 39; refine (same_any HC9.out (by omega) (by omega) HTS.out).mono ?_; rintro r z3 ⟨rfl, hE⟩; have HZ := hid (HC9.out.ext hE); clear hE))
    go_ret
    exact ⟨rfl, HX0.out.trans HZ.out.old⟩
  · have hbad : S1 = S := by rw [← hS1]; exact does_bad hy0
    have hyb : ((y1 : Int) != 0) = true := by rw [← hy1]; simpa using hy0
    have HX1 := hid hx1
    have HY1 := hid hy1
    have HS1 := hid (hS1.trans hbad)
    clear hJ hR hy0 hx1 hS1 hy1 hbad
    refine (does_lB HB.out (by omega) on 15 nn a b).mono ?_
    rintro r w5 ⟨rfl, hO⟩
    rw [HX1.out, HY1.out]
    rw [HS1.out] at hO
    have HC := hid hO.two
    clear hO
    go_wp2_with (go_at_call 38; refine (alike_any HC.out (by omega) (by omega) (TellSame.refl _) rfl).mono ?_; rintro r z ⟨rfl, hE⟩; have HZ := hid (HC.out.ext hE); clear hE)
    go_ret
    exact ⟨rfl, HX0.out.trans HZ.out.old⟩

set_option maxRecDepth 100000 in
set_option maxHeartbeats 16000000 in
theorem undone_else (w : World) (ad : Option Addr) (len cap : Nat) (on nn : Int) (a b : ByteArray) (ops : Nat → OpS) (hops : OpsAt w ad len ops) (hT : Tab w) (hlen : len ≤ 9223372036854775807) (k : Int) (h5 : k ≠ 5) (h7 : k ≠ 7) (h9 : k ≠ 9) (h11 : k ≠ 11) (h13 : k ≠ 13) (h15 : k ≠ 15) :
    Calls Tryz.prog 6 #[.slice ad len cap, OpV on k a b nn] w fun e w' => e = .returned (.bool true) ∧ Ext w w' := by
  have hX0 : Ext w (w.alloc (.cells #[.int .i64 on, .int .i64 k, .string a, .string b, .int .i64 nn] 53)) := (Ext.refl w).alloc _
  have hbox := Blk.new w #[.int .i64 on, .int .i64 k, .string a, .string b, .int .i64 nn] 53
  obtain ⟨w0, hw0⟩ : ∃ w0, w.alloc (.cells #[.int .i64 on, .int .i64 k, .string a, .string b, .int .i64 nn] 53) = w0 := ⟨_, rfl⟩
  rw [hw0] at hX0 hbox
  have HOPS := hid (hops.ext hX0)
  have HT := hid (hT.ext hX0)
  have HBOX := hid hbox
  have HX0 := hid hX0
  obtain ⟨N, hN⟩ : ∃ N, min len 200 = N := ⟨_, rfl⟩
  have hN2 : N ≤ 200 := by omega
  have HNN := hid hN
  obtain ⟨S, hS⟩ : ∃ S, runTo ops N = S := ⟨_, rfl⟩
  have hinv : S.Inv N := hS ▸ inv_run ops N
  have HINV := hid hinv
  have HS := hid hS
  have HW0 := hid hw0
  have hm1 := made_any w0 ad len cap ops N hN.symm HOPS.out HT.out hlen
  have HM1 := hid hm1
  have kb5 : (k == 5) = false := by simpa using h5
  have kb7 : (k == 7) = false := by simpa using h7
  have kb9 : (k == 9) = false := by simpa using h9
  have kb11 : (k == 11) = false := by simpa using h11
  have kb13 : (k == 13) = false := by simpa using h13
  have kb15 : (k == 15) = false := by simpa using h15
  clear h5 h7 h9 h11 h13 h15
  clear hops hT hX0 hbox hN hS hinv hw0 hm1
  go_enter Tryz.func6, Tryz.ntmps6
  go_wp2_with fail
  rw [HW0.out]
  refine HM1.out.mono ?_
  rintro r w1 ⟨p, own, rfl, hO, hE, hlo⟩
  rw [HS.out] at hO
  have HO1 := hid (OrgW.mk' (w0 := w0) hO HINV.out hE hlo)
  clear hO hE hlo
  go_wp2_with fail
  refine (made_any w1 ad len cap ops N HNN.out.symm (HOPS.out.ext HO1.out.old) (HT.out.ext HO1.out.old) hlen).mono ?_
  rintro r w2 ⟨q, own2, rfl, hO, hE, hlo⟩
  rw [HS.out] at hO
  have HO2 := hid (Org2.made HO1.out hE ⟨own2, hO, hlo⟩ HINV.out)
  clear hO hE hlo
  go_wp2_with (go_at_call 15; refine (wakes_any w2 (HT.out.ext HO2.out.old)).mono ?_; rintro r w3 ⟨rfl, hE⟩; have HO3 := hid (HO2.out.ext hE); clear hE; have hb4 := HBOX.out.ext HO3.out.old; have b0 := hb4.cell 0; have b1 := hb4.cell 1; have b2 := hb4.cell 2; have b3 := hb4.cell 3; have b4 := hb4.cell 4; have bl := hb4.lt; simp at b0 b1 b2 b3 b4; clear hb4)
  go_ret
  exact ⟨rfl, HX0.out.trans (HO3.out.old.alloc _)⟩

theorem undone_walk (w : World) (ad : Option Addr) (len cap : Nat) (on k nn : Int) (a b : ByteArray) (ops : Nat → OpS) (hops : OpsAt w ad len ops) (hT : Tab w) (hlen : len ≤ 9223372036854775807) :
    Calls Tryz.prog 6 #[.slice ad len cap, OpV on k a b nn] w fun e w' => e = .returned (.bool true) ∧ Ext w w' := by
  by_cases h5 : k = 5
  · subst h5; exact undone_5 w ad len cap on nn a b ops hops hT hlen
  by_cases h7 : k = 7
  · subst h7; exact undone_7 w ad len cap on nn a b ops hops hT hlen
  by_cases h9 : k = 9
  · subst h9; exact undone_9 w ad len cap on nn a b ops hops hT hlen
  by_cases h11 : k = 11
  · subst h11; exact undone_11 w ad len cap on nn a b ops hops hT hlen
  by_cases h13 : k = 13
  · subst h13; exact undone_13 w ad len cap on nn a b ops hops hT hlen
  by_cases h15 : k = 15
  · subst h15; exact undone_15 w ad len cap on nn a b ops hops hT hlen
  exact undone_else w ad len cap on nn a b ops hops hT hlen k h5 h7 h9 h11 h13 h15
end Go.Proofs.YtnippamifihdpaaGreatDoor
