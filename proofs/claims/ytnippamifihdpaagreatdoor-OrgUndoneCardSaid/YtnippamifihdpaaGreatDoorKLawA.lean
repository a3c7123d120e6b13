/- org, the plain law: what holds of every organisation behind n calls. law09.OrgLoans, the plain law: a loan counts to the tick ahead of its end, and not from it on. -/
import Derived.Test.YtnippamifihdpaaGreatDoorKOrgI
import Derived.Test.YtnippamifihdpaaGreatDoorKOrgH
import Derived.Test.YtnippamifihdpaaGreatDoorKOrgF
import Derived.Test.YtnippamifihdpaaGreatDoorKBits
namespace Go.Proofs.YtnippamifihdpaaGreatDoor
open Go Go.RowKit
set_option linter.unusedVariables false

/-- Is the number a known one's? -/
def KnownAt {α : Type} (ks : List (Option α)) (k : Nat) : Prop := ∃ u, ks[k]? = some (some u)
structure OrgS.Inv (S : OrgS) (n : Nat) : Prop where
  ep : S.ep ≤ n
  es : S.es.length ≤ n
  turns : S.turns ≤ n
  bars : ∀ (k : Nat) (u : UserS), S.uk[k]? = some (some u) → u.bars.length ≤ n
  duties : ∀ (k : Nat) (d : List ByteArray), S.rk[k]? = some (some d) → d.length ≤ n
  now1 : 1 ≤ S.now
  now2 : S.now ≤ 999999999
  ul : S.uk.length = S.un.length
  rl : S.rk.length = S.rn.length
  ul64 : S.un.length ≤ 64
  rl64 : S.rn.length ≤ 64
  loans : ∀ e ∈ S.es, ∃ f t, f < 64 ∧ t < 64 ∧ e.id = ((f * 64 + t : Nat) : Int) ∧ KnownAt S.uk f ∧ KnownAt S.uk t ∧ (S.now : Int) < e.at_
theorem OrgS.Inv.mono {S : OrgS} {n m : Nat} (h : S.Inv n) (hm : n ≤ m) : S.Inv m :=
  ⟨Nat.le_trans h.ep hm, Nat.le_trans h.es hm, Nat.le_trans h.turns hm, fun k u hk => Nat.le_trans (h.bars k u hk) hm, fun k d hk => Nat.le_trans (h.duties k d hk) hm, h.now1, h.now2, h.ul, h.rl, h.ul64, h.rl64, h.loans⟩

section
variable {α : Type}
theorem set_known {ks : List (Option α)} {i k : Nat} {u' : α} (h : KnownAt ks k) : KnownAt (ks.set i (some u')) k := by
  obtain ⟨u, hu⟩ := h
  have hl := (List.getElem?_eq_some_iff.1 hu).1
  by_cases hi : i = k
  · subst hi; exact ⟨u', List.getElem?_set_self hl⟩
  · exact ⟨u, by rw [List.getElem?_set_ne hi]; exact hu⟩
theorem set_back {ks : List (Option α)} {i k : Nat} {u' y : α} (h : (ks.set i (some u'))[k]? = some (some y)) : ks[k]? = some (some y) ∨ y = u' := by
  by_cases hi : i = k
  · subst hi
    rw [List.getElem?_set] at h
    simp only [if_true] at h
    split at h
    · injection h with h; injection h with h; exact .inr h.symm
    · cases h
  · rw [List.getElem?_set_ne hi] at h
    exact .inl h
theorem setNone_back {ks : List (Option α)} {i k : Nat} {y : α} (h : (ks.set i none)[k]? = some (some y)) : ks[k]? = some (some y) ∧ i ≠ k := by
  by_cases hi : i = k
  · subst hi
    rw [List.getElem?_set] at h
    simp only [if_true] at h
    split at h
    · cases h
    · cases h
  · rw [List.getElem?_set_ne hi] at h
    exact ⟨h, hi⟩
theorem addNext_known {names : List ByteArray} {ks : List (Option α)} {name : ByteArray} {x : α} {k : Nat} (h : KnownAt ks k) : KnownAt (addNext names ks name x).2 k := by
  unfold addNext
  split
  · exact h
  · split
    · split
      · exact h
      · exact set_known h
    · split
      · exact h
      · obtain ⟨u, hu⟩ := h
        exact ⟨u, by rw [List.getElem?_append_left (List.getElem?_eq_some_iff.1 hu).1]; exact hu⟩
theorem addNext_back {names : List ByteArray} {ks : List (Option α)} {name : ByteArray} {x y : α} {k : Nat} (h : (addNext names ks name x).2[k]? = some (some y)) : ks[k]? = some (some y) ∨ y = x := by
  unfold addNext at h
  split at h
  · exact .inl h
  · split at h
    · split at h
      · exact .inl h
      · exact set_back h
    · split at h
      · exact .inl h
      · dsimp only at h
        rcases Nat.lt_or_ge k ks.length with hk | hk
        · rw [List.getElem?_append_left hk] at h
          exact .inl h
        · rw [List.getElem?_append_right hk] at h
          cases hq : k - ks.length with
          | zero => rw [hq] at h; simp at h; exact .inr h.symm
          | succ q => rw [hq] at h; simp at h
theorem addNext_len {names : List ByteArray} {ks : List (Option α)} {name : ByteArray} {x : α} (h : ks.length = names.length) : (addNext names ks name x).2.length = (addNext names ks name x).1.length := by
  unfold addNext
  split
  · exact h
  · split
    · split
      · exact h
      · simpa using h
    · split
      · exact h
      · simpa using h
theorem addNext_le {names : List ByteArray} {ks : List (Option α)} {name : ByteArray} {x : α} (h : names.length ≤ 64) : (addNext names ks name x).1.length ≤ 64 := by
  unfold addNext
  split
  · exact h
  · split
    · split <;> exact h
    · split
      · exact h
      · rename_i h1
        simp
        omega
end
theorem bump_le (k ep n : Nat) (h : ep ≤ n) : bump k ep ≤ n + 1 := by unfold bump; split <;> omega
theorem addSet_len (l : List ByteArray) (d : ByteArray) : (addSet l d).2.length ≤ l.length + 1 := by
  unfold addSet
  split
  · exact Nat.le_succ _
  · split
    · exact Nat.le_succ _
    · simp
theorem dropSet_len (l : List ByteArray) (d : ByteArray) : (dropSet l d).2.length ≤ l.length + 1 := by
  unfold dropSet
  split
  · have := List.length_erase_le (a := d) (l := l); simp only; omega
  · exact Nat.le_succ _

theorem findU_some {S : OrgS} {a : ByteArray} {i : Nat} {u : UserS} (h : S.findU a = some (i, u)) : S.uk[i]? = some (some u) ∧ a ∈ S.un ∧ i = S.un.idxOf a := by
  unfold OrgS.findU at h
  split at h
  · rename_i hin
    obtain ⟨x, hx, h2⟩ := Option.map_eq_some_iff.1 h
    injection h2 with h3 h4
    subst h3 h4
    refine ⟨?_, hin, rfl⟩
    rw [List.getD_eq_getElem?_getD] at hx
    cases hq : S.uk[S.un.idxOf a]? with
    | none => rw [hq] at hx; cases hx
    | some o => rw [hq] at hx; simp at hx; rw [hx]
  · cases h
theorem findR_some {S : OrgS} {a : ByteArray} {i : Nat} {u : List ByteArray} (h : S.findR a = some (i, u)) : S.rk[i]? = some (some u) ∧ a ∈ S.rn ∧ i = S.rn.idxOf a := by
  unfold OrgS.findR at h
  split at h
  · rename_i hin
    obtain ⟨x, hx, h2⟩ := Option.map_eq_some_iff.1 h
    injection h2 with h3 h4
    subst h3 h4
    refine ⟨?_, hin, rfl⟩
    rw [List.getD_eq_getElem?_getD] at hx
    cases hq : S.rk[S.rn.idxOf a]? with
    | none => rw [hq] at hx; cases hx
    | some o => rw [hq] at hx; simp at hx; rw [hx]
  · cases h

section
variable {S : OrgS} {n : Nat}
theorem OrgS.Inv.user (h : S.Inv n) (a : ByteArray) : (S.user a).2.Inv (n + 1) := by
  have hm := h.mono (Nat.le_succ n)
  exact ⟨bump_le _ _ _ h.ep, hm.es, hm.turns, fun k u hk => (addNext_back hk).elim (hm.bars k u) fun e => by subst e; exact Nat.zero_le _, hm.duties, h.now1, h.now2, addNext_len h.ul, h.rl, addNext_le h.ul64, h.rl64,
    fun e he => let ⟨f, t, h1, h2, h3, h4, h5, h6⟩ := h.loans e he; ⟨f, t, h1, h2, h3, addNext_known h4, addNext_known h5, h6⟩⟩
theorem OrgS.Inv.role (h : S.Inv n) (a : ByteArray) : (S.role a).2.Inv (n + 1) := by
  have hm := h.mono (Nat.le_succ n)
  exact ⟨bump_le _ _ _ h.ep, hm.es, hm.turns, hm.bars, fun k u hk => (addNext_back hk).elim (hm.duties k u) fun e => by subst e; exact Nat.zero_le _, h.now1, h.now2, h.ul, addNext_len h.rl, h.ul64, addNext_le h.rl64, h.loans⟩
/-- One user turned. -/
theorem OrgS.Inv.turnU (h : S.Inv n) (i : Nat) (u' : UserS) (hu : u'.bars.length ≤ n + 1) (ep' : Nat) (hep : ep' ≤ n + 1) : OrgS.Inv { S with uk := S.uk.set i (some u'), ep := ep' } (n + 1) := by
  have hm := h.mono (Nat.le_succ n)
  exact ⟨hep, hm.es, hm.turns, fun k u hk => (set_back hk).elim (hm.bars k u) fun e => by subst e; exact hu, hm.duties, h.now1, h.now2, by simpa using h.ul, h.rl, h.ul64, h.rl64,
    fun e he => let ⟨f, t, h1, h2, h3, h4, h5, h6⟩ := h.loans e he; ⟨f, t, h1, h2, h3, set_known h4, set_known h5, h6⟩⟩
theorem OrgS.Inv.turnR (h : S.Inv n) (i : Nat) (d' : List ByteArray) (hd : d'.length ≤ n + 1) (ep' : Nat) (hep : ep' ≤ n + 1) : OrgS.Inv { S with rk := S.rk.set i (some d'), ep := ep' } (n + 1) := by
  have hm := h.mono (Nat.le_succ n)
  exact ⟨hep, hm.es, hm.turns, hm.bars, fun k u hk => (set_back hk).elim (hm.duties k u) fun e => by subst e; exact hd, h.now1, h.now2, h.ul, by simpa using h.rl, h.ul64, h.rl64, h.loans⟩
theorem OrgS.Inv.join (h : S.Inv n) (a c : ByteArray) : (S.join a c).2.Inv (n + 1) := by
  have hm := h.mono (Nat.le_succ n)
  unfold OrgS.join
  split
  · rename_i i u j _ h1 h2
    split
    · exact hm
    · exact h.turnU i { u with roles := u.roles ||| 2 ^ j } (hm.bars i u (findU_some h1).1) _ (Nat.succ_le_succ h.ep)
  · exact hm
theorem OrgS.Inv.leave (h : S.Inv n) (a c : ByteArray) : (S.leave a c).2.Inv (n + 1) := by
  have hm := h.mono (Nat.le_succ n)
  unfold OrgS.leave
  split
  · rename_i i u j _ h1 h2
    split
    · exact h.turnU i { u with roles := u.roles &&& (18446744073709551615 - 2 ^ j) } (hm.bars i u (findU_some h1).1) _ (Nat.succ_le_succ h.ep)
    · exact hm
  · exact hm
theorem OrgS.Inv.rest (h : S.Inv n) (a : ByteArray) : (S.rest a).2.Inv (n + 1) := by
  have hm := h.mono (Nat.le_succ n)
  unfold OrgS.rest
  split
  · rename_i i u h1
    split
    · exact hm
    · exact h.turnU i { u with rests := true } (hm.bars i u (findU_some h1).1) _ (Nat.succ_le_succ h.ep)
  · exact hm
theorem OrgS.Inv.wake (h : S.Inv n) (a : ByteArray) : (S.wake a).2.Inv (n + 1) := by
  have hm := h.mono (Nat.le_succ n)
  unfold OrgS.wake
  split
  · rename_i i u h1
    split
    · exact h.turnU i { u with rests := false } (hm.bars i u (findU_some h1).1) _ (Nat.succ_le_succ h.ep)
    · exact hm
  · exact hm
theorem OrgS.Inv.over (h : S.Inv n) (a c : ByteArray) : (S.over a c).2.Inv (n + 1) := by
  have hm := h.mono (Nat.le_succ n)
  unfold OrgS.over
  split
  · exact ⟨bump_le _ _ _ h.ep, hm.es, hm.turns, hm.bars, hm.duties, h.now1, h.now2, h.ul, h.rl, h.ul64, h.rl64, h.loans⟩
  · exact hm
theorem OrgS.Inv.noOver (h : S.Inv n) (a c : ByteArray) : (S.noOver a c).2.Inv (n + 1) := by
  have hm := h.mono (Nat.le_succ n)
  unfold OrgS.noOver
  split
  · exact ⟨bump_le _ _ _ h.ep, hm.es, hm.turns, hm.bars, hm.duties, h.now1, h.now2, h.ul, h.rl, h.ul64, h.rl64, h.loans⟩
  · exact hm
theorem OrgS.Inv.grant (h : S.Inv n) (a d : ByteArray) : (S.grant a d).2.Inv (n + 1) := by
  unfold OrgS.grant
  split
  · rename_i i ds h1
    exact h.turnR i _ (Nat.le_trans (addSet_len _ _) (Nat.succ_le_succ (h.duties i ds (findR_some h1).1))) _ (bump_le _ _ _ h.ep)
  · exact h.mono (Nat.le_succ n)
theorem OrgS.Inv.revoke (h : S.Inv n) (a d : ByteArray) : (S.revoke a d).2.Inv (n + 1) := by
  unfold OrgS.revoke
  split
  · rename_i i ds h1
    exact h.turnR i _ (Nat.le_trans (dropSet_len _ _) (Nat.succ_le_succ (h.duties i ds (findR_some h1).1))) _ (bump_le _ _ _ h.ep)
  · exact h.mono (Nat.le_succ n)
theorem OrgS.Inv.bar (h : S.Inv n) (a d : ByteArray) : (S.bar a d).2.Inv (n + 1) := by
  unfold OrgS.bar
  split
  · rename_i i u h1
    exact h.turnU i _ (Nat.le_trans (addSet_len _ _) (Nat.succ_le_succ (h.bars i u (findU_some h1).1))) _ (bump_le _ _ _ h.ep)
  · exact h.mono (Nat.le_succ n)
theorem OrgS.Inv.unbar (h : S.Inv n) (a d : ByteArray) : (S.unbar a d).2.Inv (n + 1) := by
  unfold OrgS.unbar
  split
  · rename_i i u h1
    exact h.turnU i _ (Nat.le_trans (dropSet_len _ _) (Nat.succ_le_succ (h.bars i u (findU_some h1).1))) _ (bump_le _ _ _ h.ep)
  · exact h.mono (Nat.le_succ n)

/-- Fewer loans. -/
theorem OrgS.Inv.fewer (h : S.Inv n) (es' : List Ent) (hs : ∀ e ∈ es', e ∈ S.es) (hl : es'.length ≤ S.es.length) (ep' : Nat) (hep : ep' ≤ n + 1) : OrgS.Inv { S with es := es', ep := ep' } (n + 1) := by
  have hm := h.mono (Nat.le_succ n)
  exact ⟨hep, Nat.le_trans hl hm.es, hm.turns, hm.bars, hm.duties, h.now1, h.now2, h.ul, h.rl, h.ul64, h.rl64, fun e he => h.loans e (hs e he)⟩
theorem mem_dropE {es : List Ent} {id : Int} {e : Ent} : e ∈ dropE es id ↔ e ∈ es ∧ e.id ≠ id := by
  unfold dropE
  rw [List.mem_filter, decide_eq_true_eq]
theorem OrgS.Inv.back (h : S.Inv n) (a c : ByteArray) : (S.back a c).2.Inv (n + 1) := by
  unfold OrgS.back
  split
  · exact h.fewer _ (fun e he => (mem_dropE.1 he).1) (dropE_length _ _) _ (bump_le _ _ _ h.ep)
  · exact h.mono (Nat.le_succ n)
theorem mem_goneTo {es : List Ent} {i k : Nat} {e : Ent} : e ∈ goneTo es i k ↔ e ∈ es ∧ ∀ j, j < k → e.id ≠ ((i * 64 + j : Nat) : Int) ∧ e.id ≠ ((j * 64 + i : Nat) : Int) := by
  induction k with
  | zero => exact ⟨fun h => ⟨h, fun j hj => absurd hj (Nat.not_lt_zero j)⟩, fun h => h.1⟩
  | succ k ih =>
    rw [goneTo_succ, mem_dropE, mem_dropE, ih]
    constructor
    · rintro ⟨⟨⟨h1, h2⟩, h3⟩, h4⟩
      refine ⟨h1, fun j hj => ?_⟩
      rcases Nat.lt_or_ge j k with hk | hk
      · exact h2 j hk
      · obtain rfl : j = k := by omega
        exact ⟨h3, h4⟩
    · rintro ⟨h1, h2⟩
      exact ⟨⟨⟨h1, fun j hj => h2 j (by omega)⟩, (h2 k (by omega)).1⟩, (h2 k (by omega)).2⟩
theorem OrgS.Inv.noUser (h : S.Inv n) (a : ByteArray) : (S.noUser a).2.Inv (n + 1) := by
  have hm := h.mono (Nat.le_succ n)
  unfold OrgS.noUser
  split
  · rename_i i u h1
    refine ⟨Nat.succ_le_succ h.ep, ?_, hm.turns, fun k u hk => hm.bars k u (setNone_back hk).1, hm.duties, h.now1, h.now2, by simpa using h.ul, h.rl, h.ul64, h.rl64, fun e he => ?_⟩
    · show (goneAll S.es i).length ≤ n + 1
      rw [goneAll_eq]
      exact Nat.le_trans (goneTo_length _ _ _) hm.es
    · have he : e ∈ goneAll S.es i := he
      rw [goneAll_eq, mem_goneTo] at he
      obtain ⟨f, t, h2, h3, h4, ⟨uf, h5⟩, ⟨ut, h6⟩, h7⟩ := h.loans e he.1
      refine ⟨f, t, h2, h3, h4, ⟨uf, ?_⟩, ⟨ut, ?_⟩, h7⟩
      · show (S.uk.set i none)[f]? = _
        rw [List.getElem?_set_ne]
        · exact h5
        · rintro rfl; exact (he.2 t h3).1 h4
      · show (S.uk.set i none)[t]? = _
        rw [List.getElem?_set_ne]
        · exact h6
        · rintro rfl; exact (he.2 f h2).2 h4
  · exact hm
theorem OrgS.Inv.noRole (h : S.Inv n) (a : ByteArray) : (S.noRole a).2.Inv (n + 1) := by
  have hm := h.mono (Nat.le_succ n)
  unfold OrgS.noRole
  split
  · rename_i i u h1
    have hk : ∀ k, KnownAt S.uk k → KnownAt (S.uk.map (Option.map (strike i))) k := by
      rintro k ⟨u, hu⟩
      exact ⟨strike i u, by rw [List.getElem?_map, hu]; rfl⟩
    refine ⟨Nat.succ_le_succ h.ep, hm.es, hm.turns, fun k u hk => ?_, fun k d hk => hm.duties k d (setNone_back hk).1, h.now1, h.now2, by simpa using h.ul, by simpa using h.rl, h.ul64, h.rl64,
      fun e he => let ⟨f, t, h1, h2, h3, h4, h5, h6⟩ := h.loans e he; ⟨f, t, h1, h2, h3, hk f h4, hk t h5, h6⟩⟩
    have hk : (S.uk.map (Option.map (strike i)))[k]? = some (some u) := hk
    rw [List.getElem?_map] at hk
    cases hq : S.uk[k]? with
    | none => rw [hq] at hk; cases hk
    | some o =>
      cases o with
      | none => rw [hq] at hk; cases hk
      | some v =>
        rw [hq] at hk
        have hv : strike i v = u := by simpa using hk
        rw [← hv]
        exact hm.bars k v hq
  · exact hm
theorem mem_insE {e x : Ent} {es : List Ent} : x ∈ insE e es ↔ x = e ∨ x ∈ es := by
  rw [(insE_perm e es).mem_iff, List.mem_cons]
theorem missU_some {x : Option (Nat × UserS)} (h : missU x = 0) : ∃ i u, x = some (i, u) := by
  cases x with
  | none => cases h
  | some q => exact ⟨q.1, q.2, rfl⟩
theorem both_known {a c : ByteArray} (h : S.both a c = 0) : (∃ i u, S.findU a = some (i, u)) ∧ ∃ i u, S.findU c = some (i, u) := by
  unfold OrgS.both at h
  split at h
  · rename_i h1; exact ⟨missU_some h1, missU_some h⟩
  · rename_i h1; exact (h1 h).elim
theorem OrgS.Inv.lend (h : S.Inv n) (a c : ByteArray) (u : Int) : (S.lend a c u).2.Inv (n + 1) := by
  have hm := h.mono (Nat.le_succ n)
  unfold OrgS.lend
  split
  · exact hm
  · rename_i hb
    split
    · exact hm
    · split
      · exact hm
      · split
        · exact hm
        · split
          · exact hm
          · rename_i h1 h2 h3 h4
            obtain ⟨⟨f, uf, hf⟩, ⟨t, ut, ht⟩⟩ := both_known (Decidable.not_not.1 hb)
            have kf := (findU_some hf).1
            have kt := (findU_some ht).1
            have lf : f < 64 := by have := (List.getElem?_eq_some_iff.1 kf).1; rw [h.ul] at this; exact Nat.lt_of_lt_of_le this h.ul64
            have lt : t < 64 := by have := (List.getElem?_eq_some_iff.1 kt).1; rw [h.ul] at this; exact Nat.lt_of_lt_of_le this h.ul64
            refine ⟨Nat.succ_le_succ h.ep, ?_, Nat.succ_le_succ h.turns, hm.bars, hm.duties, h.now1, h.now2, h.ul, h.rl, h.ul64, h.rl64, fun e he => ?_⟩
            · show (insE _ S.es).length ≤ n + 1
              rw [(insE_perm _ _).length_eq]
              exact Nat.succ_le_succ h.es
            · rcases mem_insE.1 he with he | he
              · subst he
                refine ⟨f, t, lf, lt, ?_, ⟨uf, kf⟩, ⟨ut, kt⟩, ?_⟩
                · show S.lid a c = _
                  unfold OrgS.lid
                  rw [hf, ht]
                  rfl
                · show (S.now : Int) < u
                  omega
              · exact h.loans e he
theorem OrgS.Inv.tick (h : S.Inv n) (k : Int) : (S.tick k).2.Inv (n + 1) := by
  have hm := h.mono (Nat.le_succ n)
  unfold OrgS.tick
  split
  · exact hm
  · split
    · exact hm
    · rename_i h1 h2
      have h3 : 1 ≤ S.now + k.toNat := by have := h.now1; omega
      have h4 : S.now + k.toNat ≤ 999999999 := by omega
      refine ⟨?_, ?_, hm.turns, hm.bars, hm.duties, h3, h4, h.ul, h.rl, h.ul64, h.rl64, fun e he => ?_⟩
      · show (if _ = 0 then _ else _) ≤ n + 1
        split
        · exact hm.ep
        · exact Nat.succ_le_succ h.ep
      · exact Nat.le_trans (List.length_filter_le _ _) hm.es
      · have he : e ∈ restE S.es ((S.now + k.toNat : Nat) : Int) := he
        unfold restE at he
        rw [List.mem_filter, decide_eq_true_eq] at he
        obtain ⟨f, t, q1, q2, q3, q4, q5, q6⟩ := h.loans e he.1
        exact ⟨f, t, q1, q2, q3, q4, q5, he.2⟩
end
end Go.Proofs.YtnippamifihdpaaGreatDoor
namespace Go.Proofs.YtnippamifihdpaaGreatDoor
open Go Go.RowKit
set_option linter.unusedVariables false

/-- The same users and roles. -/
structure SameOrg (S T : OrgS) : Prop where
  un : T.un = S.un
  uk : T.uk = S.uk
  rn : T.rn = S.rn
  rk : T.rk = S.rk
  J : T.J = S.J
theorem SameOrg.refl (S : OrgS) : SameOrg S S := ⟨rfl, rfl, rfl, rfl, rfl⟩
theorem SameOrg.trans {S T U : OrgS} (h : SameOrg S T) (k : SameOrg T U) : SameOrg S U := ⟨k.un.trans h.un, k.uk.trans h.uk, k.rn.trans h.rn, k.rk.trans h.rk, k.J.trans h.J⟩
theorem SameOrg.findU {S T : OrgS} (h : SameOrg S T) (a : ByteArray) : T.findU a = S.findU a := by unfold OrgS.findU; rw [h.un, h.uk]
theorem SameOrg.findR {S T : OrgS} (h : SameOrg S T) (a : ByteArray) : T.findR a = S.findR a := by unfold OrgS.findR; rw [h.rn, h.rk]
theorem SameOrg.granted {S T : OrgS} (h : SameOrg S T) (d : ByteArray) : T.granted d = S.granted d := by unfold OrgS.granted; rw [h.rk]
theorem SameOrg.both {S T : OrgS} (h : SameOrg S T) (a c : ByteArray) : T.both a c = S.both a c := by unfold OrgS.both; rw [h.findU, h.findU]
theorem SameOrg.lid {S T : OrgS} (h : SameOrg S T) (a c : ByteArray) : T.lid a c = S.lid a c := by unfold OrgS.lid; rw [h.findU, h.findU]
theorem SameOrg.fewer (S : OrgS) (es' : List Ent) (turns' now' ep' : Nat) : SameOrg S { S with es := es', turns := turns', now := now', ep := ep' } := ⟨rfl, rfl, rfl, rfl, rfl⟩

theorem getE_isSome {es : List Ent} {id : Int} : (getE es id).isSome = true ↔ ∃ e ∈ es, e.id = id := by
  unfold getE
  rw [List.find?_isSome]
  simp
theorem can_iff {S : OrgS} {a d : ByteArray} : S.can a d = true ↔ ∃ i u, S.findU a = some (i, u) ∧ mayB S d i u = true := by
  unfold OrgS.can
  cases h : S.findU a with
  | none => simp
  | some q =>
    obtain ⟨i, u⟩ := q
    dsimp only
    have hk := (findU_some h).1
    unfold OrgS.who
    rw [whoTo_bit]
    constructor
    · rintro ⟨_, v, hv, hm⟩
      rw [hk] at hv
      injection hv with hv
      injection hv with hv
      subst hv
      exact ⟨i, u, rfl, hm⟩
    · rintro ⟨i', u', hq, hm⟩
      injection hq with hq
      injection hq with h1 h2
      subst h1 h2
      exact ⟨(List.getElem?_eq_some_iff.1 hk).1, u, hk, hm⟩
theorem mayB_iff {S : OrgS} {d : ByteArray} {i : Nat} {u : UserS} : mayB S d i u = true ↔ u.rests = false ∧ d ∉ u.bars ∧ ∃ j, (S.has i).testBit j = true ∧ (S.granted d).testBit j = true := by
  unfold mayB
  rw [Bool.and_eq_true, Bool.and_eq_true, and_ne]
  simp

/-- Who is lent the roles of one who has a role that is granted a duty, may do it unless at rest or barred. -/
theorem can_lent {S : OrgS} (hJ : ∀ i, S.J i < 18446744073709551616) {f t j : Nat} {uf ut : UserS} {to d : ByteArray} (ht : S.findU to = some (t, ut)) (hf : S.uk[f]? = some (some uf)) (hr : uf.roles < 18446744073709551616)
    (hj : uf.roles.testBit j = true) (hg : (S.granted d).testBit j = true) (hl : lentB S f t = true) : S.can to d = (!ut.rests && !decide (d ∈ ut.bars)) := by
  rw [Bool.eq_iff_iff, can_iff]
  constructor
  · rintro ⟨i, u, hq, hm⟩
    rw [ht] at hq
    injection hq with hq
    injection hq with h1 h2
    subst h1 h2
    rw [mayB_iff] at hm
    simp [hm.1, hm.2.1]
  · intro h
    simp at h
    refine ⟨t, ut, ht, mayB_iff.2 ⟨h.1, h.2, j, ?_, hg⟩⟩
    unfold OrgS.has
    rw [lentTo_bit]
    refine .inr ⟨f, (List.getElem?_eq_some_iff.1 hf).1, hl, ?_⟩
    have : rolesOf S.uk f = uf.roles := by unfold rolesOf; rw [hf]
    rw [this]
    exact spread_self hJ hr hj
/-- With loans of another's alone less can be done. -/
theorem can_less {S T : OrgS} (h : SameOrg S T) (hes : ∀ e ∈ T.es, ∃ e' ∈ S.es, e'.id = e.id) {a d : ByteArray} (hc : T.can a d = true) : S.can a d = true := by
  rw [can_iff] at hc ⊢
  obtain ⟨i, u, hq, hm⟩ := hc
  rw [h.findU] at hq
  refine ⟨i, u, hq, ?_⟩
  rw [mayB_iff] at hm ⊢
  obtain ⟨h1, h2, j, h3, h4⟩ := hm
  refine ⟨h1, h2, j, ?_, by rw [← h.granted]; exact h4⟩
  unfold OrgS.has at h3 ⊢
  rw [lentTo_bit] at h3 ⊢
  rw [h.uk, h.J] at h3
  rcases h3 with h3 | ⟨f, q1, q2, q3⟩
  · exact .inl h3
  · refine .inr ⟨f, q1, ?_, q3⟩
    unfold lentB at q2 ⊢
    rw [getE_isSome] at q2 ⊢
    obtain ⟨e, he, hid⟩ := q2
    obtain ⟨e', he', hid'⟩ := hes e he
    exact ⟨e', he', hid'.trans hid⟩
/-- By a role of one's own. -/
theorem can_own {S : OrgS} (hJ : ∀ i, S.J i < 18446744073709551616) {f j : Nat} {uf : UserS} {a d : ByteArray} (hf : S.findU a = some (f, uf)) (hr : uf.roles < 18446744073709551616) (hj : uf.roles.testBit j = true) (hg : (S.granted d).testBit j = true)
    (h1 : uf.rests = false) (h2 : d ∉ uf.bars) : S.can a d = true := by
  rw [can_iff]
  refine ⟨f, uf, hf, mayB_iff.2 ⟨h1, h2, j, ?_, hg⟩⟩
  unfold OrgS.has
  rw [lentTo_bit]
  have : rolesOf S.uk f = uf.roles := by unfold rolesOf; rw [(findU_some hf).1]
  rw [this]
  exact .inl (spread_self hJ hr hj)

theorem mem_restE {es : List Ent} {now : Int} {e : Ent} : e ∈ restE es now ↔ e ∈ es ∧ now < e.at_ := by unfold restE; rw [List.mem_filter, decide_eq_true_eq]

theorem lend_zero {S : OrgS} {a c : ByteArray} {u : Int} (h : (S.lend a c u).1 = 0) : S.both a c = 0 ∧ (S.now : Int) < u ∧ u ≤ 999999999 ∧ getE S.es (S.lid a c) = none ∧
    (S.lend a c u).2 = { S with es := insE ⟨S.lid a c, u, S.turns + 1⟩ S.es, turns := S.turns + 1, ep := S.ep + 1 } := by
  unfold OrgS.lend at h ⊢
  by_cases h1 : S.both a c ≠ 0
  · rw [if_pos h1] at h; exact (h1 h).elim
  · rw [if_neg h1] at h ⊢
    by_cases h2 : fstU (S.findU a) = fstU (S.findU c)
    · rw [if_pos h2] at h; cases h
    · rw [if_neg h2] at h ⊢
      by_cases h3 : u ≤ (S.now : Int)
      · rw [if_pos h3] at h; cases h
      · rw [if_neg h3] at h ⊢
        by_cases h4 : 999999999 < u
        · rw [if_pos h4] at h; cases h
        · rw [if_neg h4] at h ⊢
          by_cases h5 : (getE S.es (S.lid a c)).isSome
          · rw [if_pos h5] at h; cases h
          · rw [if_neg h5]
            exact ⟨Decidable.not_not.1 h1, by omega, by omega, by simpa using h5, rfl⟩
theorem tick_ok {S : OrgS} {n : Int} (h1 : 1 ≤ n) (h2 : n ≤ 999999999 - (S.now : Int)) : S.tick n = (0, { S with now := S.now + n.toNat, es := restE S.es ((S.now + n.toNat : Nat) : Int), ep := if dueN S.es ((S.now + n.toNat : Nat) : Int) = 0 then S.ep else S.ep + 1 }) := by
  unfold OrgS.tick
  rw [if_neg (by omega), if_neg (by omega)]

/-- THE LAW: of an organisation in which one may do a duty by a role of one's own. -/
theorem loans_law {S : OrgS} (hJ : ∀ i, S.J i < 18446744073709551616) {from_ to d : ByteArray} {n : Int} {f j : Nat} {uf : UserS} (hf : S.findU from_ = some (f, uf)) (hr : uf.roles < 18446744073709551616) (hj : uf.roles.testBit j = true) (hg : (S.granted d).testBit j = true)
    (hn : 2 ≤ n) (hnow : (S.now : Int) ≤ 999999999 - n - 5) (hto : S.can to d = false) (hfrom : S.can from_ d = true) (hl : (S.lend from_ to ((S.now : Int) + n)).1 = 0)
    (S2 S3 S4 : OrgS) (h2 : S2 = (S.lend from_ to ((S.now : Int) + n)).2) (h3 : S3 = (S2.tick (n - 1)).2) (h4 : S4 = (S3.tick 1).2) :
    ∃ t ut, S2.findU to = some (t, ut) ∧ S2.can to d = (!ut.rests && !decide (d ∈ ut.bars)) ∧ S3.can to d = S2.can to d ∧ S4.can to d = false ∧ (S4.back from_ to).1 = 26 ∧ (S4.back from_ to).2.can from_ d = true := by
  obtain ⟨hb, hlt, hle, hnone, hS2⟩ := lend_zero hl
  obtain ⟨_, ⟨t, ut, ht⟩⟩ := both_known hb
  have hlid : S.lid from_ to = ((f * 64 + t : Nat) : Int) := by unfold OrgS.lid; rw [hf, ht]; rfl
  rw [hS2] at h2
  have s2 : SameOrg S S2 := by rw [h2]; exact ⟨rfl, rfl, rfl, rfl, rfl⟩
  have n2 : S2.now = S.now := by rw [h2]
  rw [tick_ok (by omega) (by omega)] at h3
  have s3 : SameOrg S S3 := s2.trans (by rw [h3]; exact ⟨rfl, rfl, rfl, rfl, rfl⟩)
  have n3 : S3.now = S.now + (n - 1).toNat := by rw [h3, ← n2]
  rw [tick_ok (by omega) (by omega)] at h4
  have s4 : SameOrg S S4 := s3.trans (by rw [h4]; exact ⟨rfl, rfl, rfl, rfl, rfl⟩)
  have e2 : S2.es = insE ⟨S.lid from_ to, (S.now : Int) + n, S.turns + 1⟩ S.es := by rw [h2]
  have e3 : S3.es = restE S2.es ((S2.now + (n - 1).toNat : Nat) : Int) := by rw [h3]
  have e4 : S4.es = restE S3.es ((S3.now + (1 : Int).toNat : Nat) : Int) := by rw [h4]
  have m2 : (⟨S.lid from_ to, (S.now : Int) + n, S.turns + 1⟩ : Ent) ∈ S2.es := by rw [e2, mem_insE]; exact .inl rfl
  have m3 : (⟨S.lid from_ to, (S.now : Int) + n, S.turns + 1⟩ : Ent) ∈ S3.es := by
    rw [e3, mem_restE]
    refine ⟨m2, ?_⟩
    rw [n2]
    show ((S.now + (n - 1).toNat : Nat) : Int) < (S.now : Int) + n
    omega
  have l2 : lentB S2 f t = true := by unfold lentB; rw [getE_isSome]; exact ⟨_, m2, hlid⟩
  have l3 : lentB S3 f t = true := by unfold lentB; rw [getE_isSome]; exact ⟨_, m3, hlid⟩
  have f4 : ∀ e ∈ S4.es, e ∈ S.es := by
    intro e he
    rw [e4, mem_restE, e3, mem_restE, e2, mem_insE] at he
    obtain ⟨⟨h1 | h1, _⟩, h5⟩ := he
    · exfalso
      subst h1
      rw [n3] at h5
      have h5 : ((S.now + (n - 1).toNat + (1 : Int).toNat : Nat) : Int) < (S.now : Int) + n := h5
      omega
    · exact h1
  have c2 : S2.can to d = (!ut.rests && !decide (d ∈ ut.bars)) :=
    can_lent (by rw [s2.J]; exact hJ) (by rw [s2.findU]; exact ht) (by rw [s2.uk]; exact (findU_some hf).1) hr hj (by rw [s2.granted]; exact hg) l2
  have c3 : S3.can to d = (!ut.rests && !decide (d ∈ ut.bars)) :=
    can_lent (by rw [s3.J]; exact hJ) (by rw [s3.findU]; exact ht) (by rw [s3.uk]; exact (findU_some hf).1) hr hj (by rw [s3.granted]; exact hg) l3
  have c4 : S4.can to d = false := by
    cases hq : S4.can to d
    · rfl
    · have := can_less s4 (fun e he => ⟨e, f4 e he, rfl⟩) hq
      rw [hto] at this
      cases this
  have g4 : (getE S4.es (S4.lid from_ to)).isSome = false := by
    cases hq : (getE S4.es (S4.lid from_ to)).isSome
    · rfl
    · rw [getE_isSome] at hq
      obtain ⟨e, he, hid⟩ := hq
      have : (getE S.es (S.lid from_ to)).isSome = true := getE_isSome.2 ⟨e, f4 e he, by rw [hid, s4.lid]⟩
      rw [hnone] at this
      cases this
  have b4 : S4.both from_ to = 0 := by rw [s4.both]; exact hb
  refine ⟨t, ut, by rw [s2.findU]; exact ht, c2, c3.trans c2.symm, c4, ?_, ?_⟩
  · unfold OrgS.back
    rw [if_pos b4, g4]
    rfl
  · obtain ⟨i, u, hq, hm⟩ := can_iff.1 hfrom
    rw [hf] at hq
    injection hq with hq
    injection hq with q1 q2
    subst q1 q2
    rw [mayB_iff] at hm
    have s5 : SameOrg S (S4.back from_ to).2 := s4.trans (by unfold OrgS.back; rw [if_pos b4]; exact ⟨rfl, rfl, rfl, rfl, rfl⟩)
    exact can_own (by rw [s5.J]; exact hJ) (by rw [s5.findU]; exact hf) hr hj (by rw [s5.granted]; exact hg) hm.1 hm.2.1
end Go.Proofs.YtnippamifihdpaaGreatDoor
