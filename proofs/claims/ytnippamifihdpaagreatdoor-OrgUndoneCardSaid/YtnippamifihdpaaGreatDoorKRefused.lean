/- org, the plain law: what is refused changes nothing; what is taken counts. does: what is refused changes nothing (printed by gen_bad.py). does: what is taken counts one more; a tick counts where a loan has gone. law09.OrgRefused, the walk. -/
import Derived.Test.YtnippamifihdpaaGreatDoorKLawB
import Derived.Test.YtnippamifihdpaaGreatDoorKLawA
import Derived.Test.YtnippamifihdpaaGreatDoorKAlikeL
import Derived.BigQuiet
import Derived.Deep.RegionHeld3
namespace Go.Proofs.YtnippamifihdpaaGreatDoor
open Go Go.RowKit
set_option linter.unusedVariables false

theorem bump_bad {k ep : Nat} (h : k ≠ 0) : bump k ep = ep := by unfold bump; rw [if_neg h]
theorem bump_good {k ep : Nat} (h : k = 0) : bump k ep = ep + 1 := by unfold bump; rw [if_pos h]
theorem addNext_bad {α : Type} {names : List ByteArray} {ks : List (Option α)} {name : ByteArray} {x : α} (h : (addCode names ks name).2 ≠ 0) : addNext names ks name x = (names, ks) := by
  unfold addCode at h
  unfold addNext
  split
  · rfl
  · rename_i h1
    rw [if_neg h1] at h
    split
    · rename_i h2
      rw [if_pos h2] at h
      split
      · rfl
      · rename_i h3
        rw [h3] at h
        exact (h rfl).elim
    · rename_i h2
      rw [if_neg h2] at h
      split
      · rfl
      · rename_i h3
        rw [if_neg h3] at h
        exact (h rfl).elim
theorem addSet_bad {l : List ByteArray} {d : ByteArray} (h : (addSet l d).1 ≠ 0) : (addSet l d).2 = l := by
  unfold addSet at h ⊢
  split
  · rfl
  · rename_i h1
    rw [if_neg h1] at h
    split
    · rfl
    · rename_i h2
      rw [if_neg h2] at h
      exact (h rfl).elim
theorem dropSet_bad {l : List ByteArray} {d : ByteArray} (h : (dropSet l d).1 ≠ 0) : (dropSet l d).2 = l := by
  unfold dropSet at h ⊢
  split
  · rename_i h1
    rw [if_pos h1] at h
    exact (h rfl).elim
  · rfl
theorem set_self {α : Type} {l : List α} {i : Nat} {x : α} (h : l[i]? = some x) : l.set i x = l := by
  refine List.ext_getElem? fun j => ?_
  by_cases hj : i = j
  · subst hj; rw [List.getElem?_set_self (List.getElem?_eq_some_iff.1 h).1, h]
  · rw [List.getElem?_set_ne hj]

section
variable {S : OrgS} {a b c d : ByteArray}
theorem user_bad (h : (S.user a).1.2 ≠ 0) : (S.user a).2 = S := by
  have h : (addCode S.un S.uk a).2 ≠ 0 := h
  unfold OrgS.user
  rw [addNext_bad h, bump_bad h]
theorem role_bad (h : (S.role a).1.2 ≠ 0) : (S.role a).2 = S := by
  have h : (addCode S.rn S.rk a).2 ≠ 0 := h
  unfold OrgS.role
  rw [addNext_bad h, bump_bad h]
theorem noUser_bad (h : (S.noUser a).1 ≠ 0) : (S.noUser a).2 = S := by
  unfold OrgS.noUser at h ⊢
  split
  · rename_i h1; rw [h1] at h; exact (h rfl).elim
  · rfl
theorem noRole_bad (h : (S.noRole a).1 ≠ 0) : (S.noRole a).2 = S := by
  unfold OrgS.noRole at h ⊢
  split
  · rename_i h1; rw [h1] at h; exact (h rfl).elim
  · rfl
theorem join_bad (h : (S.join a b).1 ≠ 0) : (S.join a b).2 = S := by
  unfold OrgS.join at h ⊢
  split
  · rename_i h1 h2
    rw [h1, h2] at h
    dsimp only at h
    split
    · rfl
    · rename_i h3; rw [if_neg h3] at h; exact (h rfl).elim
  · rfl
theorem leave_bad (h : (S.leave a b).1 ≠ 0) : (S.leave a b).2 = S := by
  unfold OrgS.leave at h ⊢
  split
  · rename_i h1 h2
    rw [h1, h2] at h
    dsimp only at h
    split
    · rename_i h3; rw [if_pos h3] at h; exact (h rfl).elim
    · rfl
  · rfl
theorem rest_bad (h : (S.rest a).1 ≠ 0) : (S.rest a).2 = S := by
  unfold OrgS.rest at h ⊢
  split
  · rename_i h1
    rw [h1] at h
    dsimp only at h
    split
    · rfl
    · rename_i h3; rw [if_neg h3] at h; exact (h rfl).elim
  · rfl
theorem wake_bad (h : (S.wake a).1 ≠ 0) : (S.wake a).2 = S := by
  unfold OrgS.wake at h ⊢
  split
  · rename_i h1
    rw [h1] at h
    dsimp only at h
    split
    · rename_i h3; rw [if_pos h3] at h; exact (h rfl).elim
    · rfl
  · rfl
theorem overJ_bad {J : Nat → Nat} {i j : Nat} (h : (overJ J i j).1 ≠ 0) : (overJ J i j).2 = J := by
  unfold overJ at h ⊢
  split
  · rfl
  · rename_i h1
    rw [if_neg h1] at h
    split
    · rfl
    · rename_i h2; rw [if_neg h2] at h; exact (h rfl).elim
theorem cutJ_bad {J : Nat → Nat} {i j : Nat} (h : (cutJ J i j).1 ≠ 0) : (cutJ J i j).2 = J := by
  unfold cutJ at h ⊢
  split
  · rename_i h1; rw [if_pos h1] at h; exact (h rfl).elim
  · rfl
theorem over_bad (h : (S.over a b).1 ≠ 0) : (S.over a b).2 = S := by
  unfold OrgS.over at h ⊢
  split
  · rename_i h1 h2
    rw [h1, h2] at h
    dsimp only at h ⊢
    rw [overJ_bad h, bump_bad h]
  · rfl
theorem noOver_bad (h : (S.noOver a b).1 ≠ 0) : (S.noOver a b).2 = S := by
  unfold OrgS.noOver at h ⊢
  split
  · rename_i h1 h2
    rw [h1, h2] at h
    dsimp only at h ⊢
    rw [cutJ_bad h, bump_bad h]
  · rfl
theorem grant_bad (h : (S.grant a b).1 ≠ 0) : (S.grant a b).2 = S := by
  unfold OrgS.grant at h ⊢
  split
  · rename_i h1
    rw [h1] at h
    dsimp only at h ⊢
    rw [addSet_bad h, bump_bad h, set_self (findR_some h1).1]
  · rfl
theorem revoke_bad (h : (S.revoke a b).1 ≠ 0) : (S.revoke a b).2 = S := by
  unfold OrgS.revoke at h ⊢
  split
  · rename_i h1
    rw [h1] at h
    dsimp only at h ⊢
    rw [dropSet_bad h, bump_bad h, set_self (findR_some h1).1]
  · rfl
theorem bar_bad (h : (S.bar a b).1 ≠ 0) : (S.bar a b).2 = S := by
  unfold OrgS.bar at h ⊢
  split
  · rename_i h1
    rw [h1] at h
    dsimp only at h ⊢
    rw [addSet_bad h, bump_bad h]
    have := set_self (findU_some h1).1
    rw [show S.uk.set _ (some _) = S.uk from this]
  · rfl
theorem unbar_bad (h : (S.unbar a b).1 ≠ 0) : (S.unbar a b).2 = S := by
  unfold OrgS.unbar at h ⊢
  split
  · rename_i h1
    rw [h1] at h
    dsimp only at h ⊢
    rw [dropSet_bad h, bump_bad h]
    have := set_self (findU_some h1).1
    rw [show S.uk.set _ (some _) = S.uk from this]
  · rfl
theorem lend_bad {u : Int} (h : (S.lend a b u).1 ≠ 0) : (S.lend a b u).2 = S := by
  unfold OrgS.lend at h ⊢
  by_cases h1 : S.both a b ≠ 0
  · rw [if_pos h1]
  · rw [if_neg h1] at h ⊢
    by_cases h2 : fstU (S.findU a) = fstU (S.findU b)
    · rw [if_pos h2]
    · rw [if_neg h2] at h ⊢
      by_cases h3 : u ≤ (S.now : Int)
      · rw [if_pos h3]
      · rw [if_neg h3] at h ⊢
        by_cases h4 : 999999999 < u
        · rw [if_pos h4]
        · rw [if_neg h4] at h ⊢
          by_cases h5 : (getE S.es (S.lid a b)).isSome
          · rw [if_pos h5]
          · rw [if_neg h5] at h
            exact (h rfl).elim
theorem back_bad (h : (S.back a b).1 ≠ 0) : (S.back a b).2 = S := by
  unfold OrgS.back at h ⊢
  by_cases h1 : S.both a b = 0
  · rw [if_pos h1] at h ⊢
    dsimp only at h ⊢
    rw [bump_bad h]
    have hn : getE S.es (S.lid a b) = none := by
      cases hq : getE S.es (S.lid a b) with
      | none => rfl
      | some e => rw [hq] at h; exact (h rfl).elim
    rw [dropE_none hn]
  · rw [if_neg h1]
theorem tick_bad {n : Int} (h : (S.tick n).1 ≠ 0) : (S.tick n).2 = S := by
  unfold OrgS.tick at h ⊢
  by_cases h1 : n < 1
  · rw [if_pos h1]
  · rw [if_neg h1] at h ⊢
    by_cases h2 : 999999999 - (S.now : Int) < n
    · rw [if_pos h2]
    · rw [if_neg h2] at h
      exact (h rfl).elim
end
end Go.Proofs.YtnippamifihdpaaGreatDoor
namespace Go.Proofs.YtnippamifihdpaaGreatDoor
open Go Go.RowKit
set_option linter.unusedVariables false
theorem does_bad {S : OrgS} {k : Int} {a b : ByteArray} {n : Int} (h : (S.does k a b n).1.2 ≠ 0) : (S.does k a b n).2 = S := by
  unfold OrgS.does at h ⊢
  by_cases h1 : k = 1
  · rw [if_pos h1] at h ⊢; exact user_bad h
  rw [if_neg h1] at h ⊢
  by_cases h2 : k = 2
  · rw [if_pos h2] at h ⊢; exact noUser_bad h
  rw [if_neg h2] at h ⊢
  by_cases h3 : k = 3
  · rw [if_pos h3] at h ⊢; exact role_bad h
  rw [if_neg h3] at h ⊢
  by_cases h4 : k = 4
  · rw [if_pos h4] at h ⊢; exact noRole_bad h
  rw [if_neg h4] at h ⊢
  by_cases h5 : k = 5
  · rw [if_pos h5] at h ⊢; exact join_bad h
  rw [if_neg h5] at h ⊢
  by_cases h6 : k = 6
  · rw [if_pos h6] at h ⊢; exact leave_bad h
  rw [if_neg h6] at h ⊢
  by_cases h7 : k = 7
  · rw [if_pos h7] at h ⊢; exact over_bad h
  rw [if_neg h7] at h ⊢
  by_cases h8 : k = 8
  · rw [if_pos h8] at h ⊢; exact noOver_bad h
  rw [if_neg h8] at h ⊢
  by_cases h9 : k = 9
  · rw [if_pos h9] at h ⊢; exact grant_bad h
  rw [if_neg h9] at h ⊢
  by_cases h10 : k = 10
  · rw [if_pos h10] at h ⊢; exact revoke_bad h
  rw [if_neg h10] at h ⊢
  by_cases h11 : k = 11
  · rw [if_pos h11] at h ⊢; exact bar_bad h
  rw [if_neg h11] at h ⊢
  by_cases h12 : k = 12
  · rw [if_pos h12] at h ⊢; exact unbar_bad h
  rw [if_neg h12] at h ⊢
  by_cases h13 : k = 13
  · rw [if_pos h13] at h ⊢; exact lend_bad h
  rw [if_neg h13] at h ⊢
  by_cases h14 : k = 14
  · rw [if_pos h14] at h ⊢; exact back_bad h
  rw [if_neg h14] at h ⊢
  by_cases h15 : k = 15
  · rw [if_pos h15] at h ⊢; exact rest_bad h
  rw [if_neg h15] at h ⊢
  by_cases h16 : k = 16
  · rw [if_pos h16] at h ⊢; exact wake_bad h
  rw [if_neg h16] at h ⊢
  by_cases h17 : k = 17
  · rw [if_pos h17] at h ⊢; exact tick_bad h
  rw [if_neg h17] at h ⊢
end Go.Proofs.YtnippamifihdpaaGreatDoor
namespace Go.Proofs.YtnippamifihdpaaGreatDoor
open Go Go.RowKit
set_option linter.unusedVariables false
section
variable {S : OrgS} {a b c d : ByteArray}
theorem user_good (h : (S.user a).1.2 = 0) : (S.user a).2.ep = S.ep + 1 := bump_good h
theorem role_good (h : (S.role a).1.2 = 0) : (S.role a).2.ep = S.ep + 1 := bump_good h
theorem noUser_good (h : (S.noUser a).1 = 0) : (S.noUser a).2.ep = S.ep + 1 := by
  unfold OrgS.noUser at h ⊢
  split
  · rfl
  · rename_i h1; rw [h1] at h; cases h
theorem noRole_good (h : (S.noRole a).1 = 0) : (S.noRole a).2.ep = S.ep + 1 := by
  unfold OrgS.noRole at h ⊢
  split
  · rfl
  · rename_i h1; rw [h1] at h; cases h
theorem missCode_pos (S : OrgS) (a : ByteArray) : S.missCode a ≠ 0 := missCode_ne S a
theorem join_good (h : (S.join a b).1 = 0) : (S.join a b).2.ep = S.ep + 1 := by
  unfold OrgS.join at h ⊢
  split
  · rename_i h1 h2
    rw [h1, h2] at h
    dsimp only at h
    split
    · rename_i h3; rw [if_pos h3] at h; cases h
    · rfl
  · rename_i h1
    split at h
    · rename_i h2 h3; exact (h1 _ _ _ _ h2 h3).elim
    · exact (missCode_ne S a h).elim
theorem leave_good (h : (S.leave a b).1 = 0) : (S.leave a b).2.ep = S.ep + 1 := by
  unfold OrgS.leave at h ⊢
  split
  · rename_i h1 h2
    rw [h1, h2] at h
    dsimp only at h
    split
    · rfl
    · rename_i h3; rw [if_neg h3] at h; cases h
  · rename_i h1
    split at h
    · rename_i h2 h3; exact (h1 _ _ _ _ h2 h3).elim
    · exact (missCode_ne S a h).elim
theorem rest_good (h : (S.rest a).1 = 0) : (S.rest a).2.ep = S.ep + 1 := by
  unfold OrgS.rest at h ⊢
  split
  · rename_i h1
    rw [h1] at h
    dsimp only at h
    split
    · rename_i h3; rw [if_pos h3] at h; cases h
    · rfl
  · rename_i h1; rw [h1] at h; cases h
theorem wake_good (h : (S.wake a).1 = 0) : (S.wake a).2.ep = S.ep + 1 := by
  unfold OrgS.wake at h ⊢
  split
  · rename_i h1
    rw [h1] at h
    dsimp only at h
    split
    · rfl
    · rename_i h3; rw [if_neg h3] at h; cases h
  · rename_i h1; rw [h1] at h; cases h
theorem over_good (h : (S.over a b).1 = 0) : (S.over a b).2.ep = S.ep + 1 := by
  unfold OrgS.over at h ⊢
  split
  · rename_i h1 h2
    rw [h1, h2] at h
    exact bump_good h
  · rename_i h1
    split at h
    · rename_i h2 h3; exact (h1 _ _ _ _ h2 h3).elim
    · cases h
theorem noOver_good (h : (S.noOver a b).1 = 0) : (S.noOver a b).2.ep = S.ep + 1 := by
  unfold OrgS.noOver at h ⊢
  split
  · rename_i h1 h2
    rw [h1, h2] at h
    exact bump_good h
  · rename_i h1
    split at h
    · rename_i h2 h3; exact (h1 _ _ _ _ h2 h3).elim
    · cases h
theorem grant_good (h : (S.grant a b).1 = 0) : (S.grant a b).2.ep = S.ep + 1 := by
  unfold OrgS.grant at h ⊢
  split
  · rename_i h1; rw [h1] at h; exact bump_good h
  · rename_i h1; rw [h1] at h; cases h
theorem revoke_good (h : (S.revoke a b).1 = 0) : (S.revoke a b).2.ep = S.ep + 1 := by
  unfold OrgS.revoke at h ⊢
  split
  · rename_i h1; rw [h1] at h; exact bump_good h
  · rename_i h1; rw [h1] at h; cases h
theorem bar_good (h : (S.bar a b).1 = 0) : (S.bar a b).2.ep = S.ep + 1 := by
  unfold OrgS.bar at h ⊢
  split
  · rename_i h1; rw [h1] at h; exact bump_good h
  · rename_i h1; rw [h1] at h; cases h
theorem unbar_good (h : (S.unbar a b).1 = 0) : (S.unbar a b).2.ep = S.ep + 1 := by
  unfold OrgS.unbar at h ⊢
  split
  · rename_i h1; rw [h1] at h; exact bump_good h
  · rename_i h1; rw [h1] at h; cases h
theorem lend_good {u : Int} (h : (S.lend a b u).1 = 0) : (S.lend a b u).2.ep = S.ep + 1 := by
  obtain ⟨_, _, _, _, h5⟩ := lend_zero h
  rw [h5]
theorem back_good (h : (S.back a b).1 = 0) : (S.back a b).2.ep = S.ep + 1 := by
  unfold OrgS.back at h ⊢
  by_cases h1 : S.both a b = 0
  · rw [if_pos h1] at h ⊢
    exact bump_good h
  · rw [if_neg h1] at h
    exact (h1 h).elim
end
end Go.Proofs.YtnippamifihdpaaGreatDoor
namespace Go.Proofs.YtnippamifihdpaaGreatDoor
open Go Go.RowKit
set_option linter.unusedVariables false

theorem does_good {S : OrgS} {k : Int} {a b : ByteArray} {n : Int} (h : (S.does k a b n).1.2 = 0) (h1 : 1 ≤ k) (h2 : k ≤ 16) : (S.does k a b n).2.ep = S.ep + 1 := by
  unfold OrgS.does at h ⊢
  by_cases h1 : k = 1
  · rw [if_pos h1] at h ⊢; exact user_good h
  rw [if_neg h1] at h ⊢
  by_cases h2 : k = 2
  · rw [if_pos h2] at h ⊢; exact noUser_good h
  rw [if_neg h2] at h ⊢
  by_cases h3 : k = 3
  · rw [if_pos h3] at h ⊢; exact role_good h
  rw [if_neg h3] at h ⊢
  by_cases h4 : k = 4
  · rw [if_pos h4] at h ⊢; exact noRole_good h
  rw [if_neg h4] at h ⊢
  by_cases h5 : k = 5
  · rw [if_pos h5] at h ⊢; exact join_good h
  rw [if_neg h5] at h ⊢
  by_cases h6 : k = 6
  · rw [if_pos h6] at h ⊢; exact leave_good h
  rw [if_neg h6] at h ⊢
  by_cases h7 : k = 7
  · rw [if_pos h7] at h ⊢; exact over_good h
  rw [if_neg h7] at h ⊢
  by_cases h8 : k = 8
  · rw [if_pos h8] at h ⊢; exact noOver_good h
  rw [if_neg h8] at h ⊢
  by_cases h9 : k = 9
  · rw [if_pos h9] at h ⊢; exact grant_good h
  rw [if_neg h9] at h ⊢
  by_cases h10 : k = 10
  · rw [if_pos h10] at h ⊢; exact revoke_good h
  rw [if_neg h10] at h ⊢
  by_cases h11 : k = 11
  · rw [if_pos h11] at h ⊢; exact bar_good h
  rw [if_neg h11] at h ⊢
  by_cases h12 : k = 12
  · rw [if_pos h12] at h ⊢; exact unbar_good h
  rw [if_neg h12] at h ⊢
  by_cases h13 : k = 13
  · rw [if_pos h13] at h ⊢; exact lend_good h
  rw [if_neg h13] at h ⊢
  by_cases h14 : k = 14
  · rw [if_pos h14] at h ⊢; exact back_good h
  rw [if_neg h14] at h ⊢
  by_cases h15 : k = 15
  · rw [if_pos h15] at h ⊢; exact rest_good h
  rw [if_neg h15] at h ⊢
  by_cases h16 : k = 16
  · rw [if_pos h16] at h ⊢; exact wake_good h
  rw [if_neg h16] at h ⊢
  omega
theorem does_tick {S : OrgS} {k : Int} {a b : ByteArray} {n : Int} (h : k = 17) : S.does k a b n = ((0, (S.tick n).1), (S.tick n).2) := by
  subst h
  rfl
theorem restE_length (es : List Ent) (t : Int) : (restE es t).length + dueN es t = es.length := by
  unfold restE dueN
  induction es with
  | nil => rfl
  | cons e es ih =>
    rw [List.filter_cons, List.filter_cons]
    cases h : decide (t < e.at_)
    · simp only [Bool.not_false, if_true, Bool.false_eq_true, if_false, List.length_cons]; omega
    · simp only [Bool.not_true, if_true, Bool.false_eq_true, if_false, List.length_cons]; omega
theorem tick_zero {S : OrgS} {n : Int} (h : (S.tick n).1 = 0) : 1 ≤ n ∧ n ≤ 999999999 - (S.now : Int) ∧ ((S.tick n).2.now : Int) = S.now + n ∧
    ((S.tick n).2.ep = S.ep ∧ (S.tick n).2.es.length = S.es.length ∨ (S.tick n).2.ep = S.ep + 1 ∧ (S.tick n).2.es.length < S.es.length) := by
  unfold OrgS.tick at h ⊢
  split at h
  · cases h
  · rename_i h1
    split at h
    · cases h
    · rename_i h2
      rw [if_neg h1, if_neg h2]
      have hr := restE_length S.es ((S.now + n.toNat : Nat) : Int)
      refine ⟨by omega, by omega, ?_, ?_⟩
      · show ((S.now + n.toNat : Nat) : Int) = _
        omega
      · by_cases h3 : dueN S.es ((S.now + n.toNat : Nat) : Int) = 0
        · left
          refine ⟨?_, ?_⟩
          · show (if _ then _ else _) = _
            rw [if_pos h3]
          · show (restE _ _).length = _
            omega
        · right
          refine ⟨?_, ?_⟩
          · show (if _ then _ else _) = _
            rw [if_neg h3]
          · show (restE _ _).length < _
            omega

theorem TellSame.refl (S : OrgS) : TellSame S S := ⟨rfl, rfl, rfl, rfl, rfl, rfl, rfl⟩

set_option maxRecDepth 100000 in
set_option maxHeartbeats 16000000 in
theorem refused_walk (w : World) (ad : Option Addr) (len cap : Nat) (on k nn : Int) (a b : ByteArray) (ops : Nat → OpS) (hops : OpsAt w ad len ops) (hT : Tab w) (hlen : len ≤ 9223372036854775807) :
    Calls Tryz.prog 5 #[.slice ad len cap, OpV on k a b nn] w fun e w' => e = .returned (.bool true) ∧ Ext w w' := by
  have hX0 : Ext w (w.alloc (.cells #[.int .i64 on, .int .i64 k, .string a, .string b, .int .i64 nn] 53)) := (Ext.refl w).alloc _
  have hbox := Blk.new w #[.int .i64 on, .int .i64 k, .string a, .string b, .int .i64 nn] 53
  obtain ⟨w0, hw0⟩ : ∃ w0, w.alloc (.cells #[.int .i64 on, .int .i64 k, .string a, .string b, .int .i64 nn] 53) = w0 := ⟨_, rfl⟩
  rw [hw0] at hX0 hbox
  have HOPS := hid (hops.ext hX0)
  have HT := hid (hT.ext hX0)
  have HBOX := hid hbox
  have HX0 := hid hX0
  obtain ⟨N, hN⟩ : ∃ N, min len 200 = N := ⟨_, rfl⟩
  have hN2 : N ≤ 200 := by omega
  have HNN := hid hN
  obtain ⟨S, hS⟩ : ∃ S, runTo ops N = S := ⟨_, rfl⟩
  have hinv : S.Inv N := hS ▸ inv_run ops N
  have HINV := hid hinv
  have HS := hid hS
  have HW0 := hid hw0
  have hm1 := made_any w0 ad len cap ops N hN.symm HOPS.out HT.out hlen
  have HM1 := hid hm1
  clear hops hT hX0 hbox hN hS hinv hw0 hm1
  go_enter Tryz.func5, Tryz.ntmps5
  go_wp2_with fail
  rw [HW0.out]
  refine HM1.out.mono ?_
  rintro r w1 ⟨p, own, rfl, hO, hE, hlo⟩
  rw [HS.out] at hO
  have HO1 := hid (OrgW.mk' (w0 := w0) hO HINV.out hE hlo)
  clear hO hE hlo
  go_wp2_with fail
  refine (made_any w1 ad len cap ops N HNN.out.symm (HOPS.out.ext HO1.out.old) (HT.out.ext HO1.out.old) hlen).mono ?_
  rintro r w2 ⟨q, own2, rfl, hO, hE, hlo⟩
  rw [HS.out] at hO
  have HO2 := hid (Org2.made HO1.out hE ⟨own2, hO, hlo⟩ HINV.out)
  clear hO hE hlo
  go_wp2_with (first | (go_at_call 15; refine (wakes_any w2 (HT.out.ext HO2.out.old)).mono ?_; rintro r w3 ⟨rfl, hE⟩; have HO3 := hid (HO2.out.ext hE); clear hE) | (go_at_call 36; refine (epoch_t HO3.out.left).mono ?_; rintro r w3' ⟨rfl, rfl⟩))
  refine (HO3.out.loansL (by omega) w3 (Ext.refl w3)).mono ?_
  rintro r w4 ⟨l, rfl, hE, ad4, c4, rfl, _⟩
  have HO4 := hid (HO3.out.ext hE)
  clear hE
  have hb4 := HBOX.out.ext HO4.out.old
  have b0 := hb4.cell 0
  have b1 := hb4.cell 1
  have b2 := hb4.cell 2
  have b3 := hb4.cell 3
  have b4 := hb4.cell 4
  simp at b0 b1 b2 b3 b4
  clear hb4
  obtain ⟨x, hx⟩ : ∃ x, (S.does k a b nn).1.1 = x := ⟨_, rfl⟩
  obtain ⟨y, hy⟩ : ∃ y, (S.does k a b nn).1.2 = y := ⟨_, rfl⟩
  obtain ⟨S1, hS1⟩ : ∃ S1, (S.does k a b nn).2 = S1 := ⟨_, rfl⟩
  have HX := hid hx
  have HSS := hid hS1
  by_cases hy0 : y = 0
  · subst hy0
    have HY0 := hid hy
    by_cases hk17 : k = 17
    · have hS1' := hS1
      have hy' := hy
      rw [does_tick hk17] at hS1' hy'
      obtain ⟨t1, t2, t3, t4⟩ := tick_zero (S := S) (n := nn) hy'
      dsimp only at hS1'
      rw [hS1'] at t3 t4
      have hnw := HINV.out.now2
      clear hx hy hS1 hS1' hy'
      subst hk17
      have hep := HINV.out.ep
      have T3 := hid t3
      have wn : IntKind.i64.wrap ((S.now : Int) + nn) = (S.now : Int) + nn := by simp [IntKind.wrap, IntKind.bits, IntKind.signed]; omega
      rcases t4 with ⟨t5, t6⟩ | ⟨t5, t6⟩
      · have T5 : Hid ((S1.ep : Int) = (S.ep : Int)) := hid (by omega)
        have T6 : Hid (S1.es.length = S.es.length) := hid t6
        clear t3 t5 t6
        go_wp2_with (go_at_call 37; refine (does_l HO4.out (by omega) on 17 nn a b).mono ?_; rintro r w5 ⟨rfl, hO⟩; rw [HX.out, HY0.out]; rw [HSS.out] at hO; have HO5 := hid hO; clear hO; have d1 := (HBOX.out.ext HO5.out.old).cell 1; have d4 := (HBOX.out.ext HO5.out.old).cell 4; simp at d1 d4)
        have HOD := hid (HO5.out.ext ((Ext.refl w5).drew))
        go_region_held3 (fun w' => w'.cell? ⟨w.heap.size, 4, none⟩ = some (.int .i64 nn)) (assumption) (first | (go_at_call_of 24 p; refine (now_h HOD.out.left).mono ?_; rintro r x1 ⟨rfl, rfl⟩; rw [T3.out]) | (go_at_call_of 24 q; refine (now_h HOD.out.right).mono ?_; rintro r x2 ⟨rfl, rfl⟩) | (go_at_call_of 36 p; refine (epoch_t HOD.out.left).mono ?_; rintro r x3 ⟨rfl, rfl⟩; rw [T5.out]) | (go_at_call_of 31 p; refine (HOD.out.loansL (by omega) _ (Ext.refl _)).mono ?_; rintro r x4 ⟨l, rfl, hE, ad9, c9, rfl, _⟩; rw [T6.out]; have HO9 := hid (HOD.out.ext hE); have cs := (HBOX.out.ext HO9.out.old).cell 4; simp at cs; clear hE) | (go_at_call_of 36 p; refine (epoch_t HO9.out.left).mono ?_; rintro r x5 ⟨rfl, rfl⟩; rw [T5.out]))
        go_wp2_with fail
        go_ret
        exact ⟨rfl, HX0.out.trans HO9.out.old⟩
      · have T5 : Hid ((S1.ep : Int) = (S.ep : Int) + 1) := hid (by omega)
        obtain ⟨n1, hn1⟩ : ∃ n1, S1.es.length = n1 := ⟨_, rfl⟩
        have T6 : Hid (S1.es.length = n1) := hid hn1
        have f1 : (((S.ep : Int) + 1) == (S.ep : Int)) = false := by simp; omega
        have f3 : IntKind.u64.wrap ((S.ep : Int) + 1 - (S.ep : Int)) = 1 := by rw [show (S.ep : Int) + 1 - (S.ep : Int) = 1 by omega]; rfl
        have f2 : ((n1 : Int) == (S.es.length : Int)) = false := by simp; omega
        clear t3 t5 t6 hn1
        go_wp2_with (go_at_call 37; refine (does_l HO4.out (by omega) on 17 nn a b).mono ?_; rintro r w5 ⟨rfl, hO⟩; rw [HX.out, HY0.out]; rw [HSS.out] at hO; have HO5 := hid hO; clear hO; have d1 := (HBOX.out.ext HO5.out.old).cell 1; have d4 := (HBOX.out.ext HO5.out.old).cell 4; simp at d1 d4)
        have HOD := hid (HO5.out.ext ((Ext.refl w5).drew))
        go_region_held3 (fun w' => w'.cell? ⟨w.heap.size, 4, none⟩ = some (.int .i64 nn)) (assumption) (first | (go_at_call_of 24 p; refine (now_h HOD.out.left).mono ?_; rintro r x1 ⟨rfl, rfl⟩; rw [T3.out]) | (go_at_call_of 24 q; refine (now_h HOD.out.right).mono ?_; rintro r x2 ⟨rfl, rfl⟩) | (go_at_call_of 36 p; refine (epoch_t HOD.out.left).mono ?_; rintro r x3 ⟨rfl, rfl⟩; rw [T5.out]) | (go_at_call_of 31 p; refine (HOD.out.loansL (by omega) _ (Ext.refl _)).mono ?_; rintro r x4 ⟨l, rfl, hE, ad9, c9, rfl, _⟩; rw [T6.out]; have HO9 := hid (HOD.out.ext hE); have cs := (HBOX.out.ext HO9.out.old).cell 4; simp at cs; clear hE) | (go_at_call_of 36 p; refine (epoch_t HO9.out.left).mono ?_; rintro r x5 ⟨rfl, rfl⟩; rw [T5.out]))
        go_wp2_with fail
        go_ret
        exact ⟨rfl, HX0.out.trans HO9.out.old⟩
    · have hkb : (k == 17) = false := by simpa using hk17
      by_cases hk1 : k < 1
      · have hk1' : decide (k < 1) = true := decide_eq_true hk1
        clear hx hy hS1
        go_wp2_with (go_at_call 37; refine (does_l HO4.out (by omega) on k nn a b).mono ?_; rintro r w5 ⟨rfl, hO⟩; rw [HX.out, HY0.out]; rw [HSS.out] at hO; have HO5 := hid hO; clear hO; have d1 := (HBOX.out.ext HO5.out.old).cell 1; have d4 := (HBOX.out.ext HO5.out.old).cell 4; simp at d1 d4)
        go_ret
        exact ⟨rfl, HX0.out.trans HO5.out.old⟩
      · have hk1' : decide (k < 1) = false := decide_eq_false hk1
        by_cases hk2 : 17 < k
        · have hk2' : decide (17 < k) = true := decide_eq_true hk2
          clear hx hy hS1
          go_wp2_with (go_at_call 37; refine (does_l HO4.out (by omega) on k nn a b).mono ?_; rintro r w5 ⟨rfl, hO⟩; rw [HX.out, HY0.out]; rw [HSS.out] at hO; have HO5 := hid hO; clear hO; have d1 := (HBOX.out.ext HO5.out.old).cell 1; have d4 := (HBOX.out.ext HO5.out.old).cell 4; simp at d1 d4)
          go_ret
          exact ⟨rfl, HX0.out.trans HO5.out.old⟩
        · have hk2' : decide (17 < k) = false := decide_eq_false hk2
          have hg := does_good (S := S) (k := k) (a := a) (b := b) (n := nn) hy (by omega) (by omega)
          rw [hS1] at hg
          have hep := HINV.out.ep
          have hg' : (S1.ep : Int) = (S.ep : Int) + 1 := by omega
          obtain ⟨ep, hepn⟩ : ∃ ep, S.ep = ep := ⟨_, rfl⟩
          obtain ⟨ep1, hepn1⟩ : ∃ ep1, S1.ep = ep1 := ⟨_, rfl⟩
          have HG' := hid hg'
          have wr : IntKind.u64.wrap ((S.ep : Int) + 1) = (S.ep : Int) + 1 := by simp [IntKind.wrap, IntKind.bits, IntKind.signed]; omega
          clear hx hy hS1 hg hepn hepn1 hg'
          go_wp2_with (first | (go_at_call 37; refine (does_l HO4.out (by omega) on k nn a b).mono ?_; rintro r w5 ⟨rfl, hO⟩; rw [HX.out, HY0.out]; rw [HSS.out] at hO; have HO5 := hid hO; clear hO; have d1 := (HBOX.out.ext HO5.out.old).cell 1; have d4 := (HBOX.out.ext HO5.out.old).cell 4; simp at d1 d4) | (go_at_call 36; refine (epoch_t HO5.out.left).mono ?_; rintro r w6 ⟨rfl, rfl⟩; rw [HG'.out]))
          go_ret
          exact ⟨by simp, HX0.out.trans HO5.out.old⟩
  · have hyb : ((y : Int) != 0) = true := by simpa using hy0
    have hbad : S1 = S := by rw [← hS1]; exact does_bad (by rw [hy]; exact hy0)
    have HY := hid hy
    subst hbad
    clear hx hy hS1
    go_wp2_with (first | (go_at_call 37; refine (does_l HO4.out (by omega) on k nn a b).mono ?_; rintro r w5 ⟨rfl, hO⟩; rw [HX.out, HY.out]; rw [HSS.out] at hO; have HO5 := hid hO; clear hO; have d1 := (HBOX.out.ext HO5.out.old).cell 1; have d4 := (HBOX.out.ext HO5.out.old).cell 4; simp at d1 d4) | (go_at_call 36; refine (epoch_t HO5.out.left).mono ?_; rintro r w6 ⟨rfl, rfl⟩) | (go_at_call 38; refine (alike_any HO5.out (by omega) (by omega) (TellSame.refl _) rfl).mono ?_; rintro r w7 ⟨rfl, hE⟩; have HO7 := hid (HO5.out.ext hE); clear hE))
    go_ret
    exact ⟨rfl, HX0.out.trans HO7.out.old⟩
end Go.Proofs.YtnippamifihdpaaGreatDoor
