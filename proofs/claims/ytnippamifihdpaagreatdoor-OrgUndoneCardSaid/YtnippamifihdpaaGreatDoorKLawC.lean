/- org over a handle (printed by gen_handle.py): an organisation in new memory, its state, how many calls it has seen. law09.wakes. -/
import Derived.Test.YtnippamifihdpaaGreatDoorKLawB
import Derived.Test.YtnippamifihdpaaGreatDoorKOrgG
import Derived.Test.YtnippamifihdpaaGreatDoorKOrgJ
import Derived.Test.YtnippamifihdpaaGreatDoorKBits
import Derived.Test.YtnippamifihdpaaGreatDoorKLawA
namespace Go.Proofs.YtnippamifihdpaaGreatDoor
open Go Go.RowKit
set_option linter.unusedVariables false

def OrgW (w0 w : World) (p : Nat) (S : OrgS) (m : Nat) : Prop := ∃ own, OrgAt w own p S ∧ S.Inv m ∧ Ext w0 w ∧ ∀ c t, own c = some t → w0.heap.size ≤ c
section
variable {w0 w w' : World} {p : Nat} {S S' : OrgS} {m m' : Nat}
theorem OrgW.mk' {own : Own} (h : OrgAt w own p S) (hI : S.Inv m) (hE : Ext w0 w) (hlo : ∀ c t, own c = some t → w0.heap.size ≤ c) : OrgW w0 w p S m := ⟨own, h, hI, hE, hlo⟩
theorem OrgW.ext (h : OrgW w0 w p S m) (k : Ext w w') : OrgW w0 w' p S m := by
  obtain ⟨own, h1, h2, h3, h4⟩ := h
  exact ⟨own, h1.ext k, h2, h3.trans k, h4⟩
theorem OrgW.inv (h : OrgW w0 w p S m) : S.Inv m := by
  obtain ⟨own, h1, h2, h3, h4⟩ := h
  exact h2
theorem OrgW.old (h : OrgW w0 w p S m) : Ext w0 w := by
  obtain ⟨own, h1, h2, h3, h4⟩ := h
  exact h3
theorem OrgW.post {own : Own} (hE : Ext w0 w) (hlo : ∀ c t, own c = some t → w0.heap.size ≤ c) (h : OrgPost w own p S' w') (hI : S'.Inv m') : OrgW w0 w' p S' m' := by
  obtain ⟨own', h1, h2, h3, h4⟩ := h
  refine ⟨own', h1, hI, ?_, fun c t hc => (h4 c t hc).elim (hlo c t) fun h => Nat.le_trans hE.size h⟩
  exact hE.trans' h2 fun b hb hq => by
    cases hc : own b with
    | none => exact (hq hc).elim
    | some t => have := hlo b t hc; omega
theorem OrgS.Inv.lent (h : S.Inv m) : ∀ i k, i < 64 → lentB S k i = true → ∃ v, S.uk[k]? = some (some v) := by
  intro i k hi hl
  unfold lentB at hl
  cases hq : getE S.es ((k * 64 + i : Nat) : Int) with
  | none => rw [hq] at hl; cases hl
  | some e =>
    obtain ⟨he, hid⟩ := getE_some hq
    obtain ⟨f, t, h1, h2, h3, h4, h5, h6⟩ := h.loans e he
    have : k = f := by rw [h3] at hid; omega
    subst this
    exact h4

theorem user_h (a : ByteArray) (h : OrgW w0 w p S m) (hm : m ≤ 60000) :
    Calls Tryz.prog 16 #[ptr p, .string a] w fun e w' => e = .returned (.tuple #[.int .i64 (S.user a).1.1, .int .i64 (S.user a).1.2]) ∧ OrgW w0 w' p (S.user a).2 (m + 1) := by
  obtain ⟨own, h1, hI, h3, h4⟩ := h
  have hep : S.ep < 1000000 := by have := hI.ep; omega
  have hes : S.es.length ≤ 60000 := Nat.le_trans hI.es hm
  have htu : S.turns < 4000000000 := by have := hI.turns; omega
  exact (user_any a h1 hep).mono fun e w' k => ⟨k.1, OrgW.post h3 h4 k.2 (hI.user a)⟩
theorem noUser_h (a : ByteArray) (h : OrgW w0 w p S m) (hm : m ≤ 60000) :
    Calls Tryz.prog 82 #[ptr p, .string a] w fun e w' => e = .returned (.int .i64 (S.noUser a).1) ∧ OrgW w0 w' p (S.noUser a).2 (m + 1) := by
  obtain ⟨own, h1, hI, h3, h4⟩ := h
  have hep : S.ep < 1000000 := by have := hI.ep; omega
  have hes : S.es.length ≤ 60000 := Nat.le_trans hI.es hm
  have htu : S.turns < 4000000000 := by have := hI.turns; omega
  exact (noUser_any a h1 hep hes).mono fun e w' k => ⟨k.1, OrgW.post h3 h4 k.2 (hI.noUser a)⟩
theorem role_h (a : ByteArray) (h : OrgW w0 w p S m) (hm : m ≤ 60000) :
    Calls Tryz.prog 17 #[ptr p, .string a] w fun e w' => e = .returned (.tuple #[.int .i64 (S.role a).1.1, .int .i64 (S.role a).1.2]) ∧ OrgW w0 w' p (S.role a).2 (m + 1) := by
  obtain ⟨own, h1, hI, h3, h4⟩ := h
  have hep : S.ep < 1000000 := by have := hI.ep; omega
  have hes : S.es.length ≤ 60000 := Nat.le_trans hI.es hm
  have htu : S.turns < 4000000000 := by have := hI.turns; omega
  exact (role_any a h1 hep).mono fun e w' k => ⟨k.1, OrgW.post h3 h4 k.2 (hI.role a)⟩
theorem noRole_h (a : ByteArray) (h : OrgW w0 w p S m) (hm : m ≤ 60000) :
    Calls Tryz.prog 83 #[ptr p, .string a] w fun e w' => e = .returned (.int .i64 (S.noRole a).1) ∧ OrgW w0 w' p (S.noRole a).2 (m + 1) := by
  obtain ⟨own, h1, hI, h3, h4⟩ := h
  have hep : S.ep < 1000000 := by have := hI.ep; omega
  have hes : S.es.length ≤ 60000 := Nat.le_trans hI.es hm
  have htu : S.turns < 4000000000 := by have := hI.turns; omega
  exact (noRole_any a h1 hep).mono fun e w' k => ⟨k.1, OrgW.post h3 h4 k.2 (hI.noRole a)⟩
theorem join_h (a : ByteArray) (b : ByteArray) (h : OrgW w0 w p S m) (hm : m ≤ 60000) :
    Calls Tryz.prog 18 #[ptr p, .string a, .string b] w fun e w' => e = .returned (.int .i64 (S.join a b).1) ∧ OrgW w0 w' p (S.join a b).2 (m + 1) := by
  obtain ⟨own, h1, hI, h3, h4⟩ := h
  have hep : S.ep < 1000000 := by have := hI.ep; omega
  have hes : S.es.length ≤ 60000 := Nat.le_trans hI.es hm
  have htu : S.turns < 4000000000 := by have := hI.turns; omega
  exact (join_any a b h1 hep).mono fun e w' k => ⟨k.1, OrgW.post h3 h4 k.2 (hI.join a b)⟩
theorem leave_h (a : ByteArray) (b : ByteArray) (h : OrgW w0 w p S m) (hm : m ≤ 60000) :
    Calls Tryz.prog 84 #[ptr p, .string a, .string b] w fun e w' => e = .returned (.int .i64 (S.leave a b).1) ∧ OrgW w0 w' p (S.leave a b).2 (m + 1) := by
  obtain ⟨own, h1, hI, h3, h4⟩ := h
  have hep : S.ep < 1000000 := by have := hI.ep; omega
  have hes : S.es.length ≤ 60000 := Nat.le_trans hI.es hm
  have htu : S.turns < 4000000000 := by have := hI.turns; omega
  exact (leave_any a b h1 hep).mono fun e w' k => ⟨k.1, OrgW.post h3 h4 k.2 (hI.leave a b)⟩
theorem over_h (a : ByteArray) (b : ByteArray) (h : OrgW w0 w p S m) (hm : m ≤ 60000) :
    Calls Tryz.prog 85 #[ptr p, .string a, .string b] w fun e w' => e = .returned (.int .i64 (S.over a b).1) ∧ OrgW w0 w' p (S.over a b).2 (m + 1) := by
  obtain ⟨own, h1, hI, h3, h4⟩ := h
  have hep : S.ep < 1000000 := by have := hI.ep; omega
  have hes : S.es.length ≤ 60000 := Nat.le_trans hI.es hm
  have htu : S.turns < 4000000000 := by have := hI.turns; omega
  exact (over_any a b h1 hep).mono fun e w' k => ⟨k.1, OrgW.post h3 h4 k.2 (hI.over a b)⟩
theorem noOver_h (a : ByteArray) (b : ByteArray) (h : OrgW w0 w p S m) (hm : m ≤ 60000) :
    Calls Tryz.prog 86 #[ptr p, .string a, .string b] w fun e w' => e = .returned (.int .i64 (S.noOver a b).1) ∧ OrgW w0 w' p (S.noOver a b).2 (m + 1) := by
  obtain ⟨own, h1, hI, h3, h4⟩ := h
  have hep : S.ep < 1000000 := by have := hI.ep; omega
  have hes : S.es.length ≤ 60000 := Nat.le_trans hI.es hm
  have htu : S.turns < 4000000000 := by have := hI.turns; omega
  exact (noOver_any a b h1 hep).mono fun e w' k => ⟨k.1, OrgW.post h3 h4 k.2 (hI.noOver a b)⟩
theorem grant_h (a : ByteArray) (b : ByteArray) (h : OrgW w0 w p S m) (hm : m ≤ 60000) :
    Calls Tryz.prog 19 #[ptr p, .string a, .string b] w fun e w' => e = .returned (.int .i64 (S.grant a b).1) ∧ OrgW w0 w' p (S.grant a b).2 (m + 1) := by
  obtain ⟨own, h1, hI, h3, h4⟩ := h
  have hep : S.ep < 1000000 := by have := hI.ep; omega
  have hes : S.es.length ≤ 60000 := Nat.le_trans hI.es hm
  have htu : S.turns < 4000000000 := by have := hI.turns; omega
  exact (grant_any a b h1 hep).mono fun e w' k => ⟨k.1, OrgW.post h3 h4 k.2 (hI.grant a b)⟩
theorem revoke_h (a : ByteArray) (b : ByteArray) (h : OrgW w0 w p S m) (hm : m ≤ 60000) :
    Calls Tryz.prog 87 #[ptr p, .string a, .string b] w fun e w' => e = .returned (.int .i64 (S.revoke a b).1) ∧ OrgW w0 w' p (S.revoke a b).2 (m + 1) := by
  obtain ⟨own, h1, hI, h3, h4⟩ := h
  have hep : S.ep < 1000000 := by have := hI.ep; omega
  have hes : S.es.length ≤ 60000 := Nat.le_trans hI.es hm
  have htu : S.turns < 4000000000 := by have := hI.turns; omega
  exact (revoke_any a b h1 hep).mono fun e w' k => ⟨k.1, OrgW.post h3 h4 k.2 (hI.revoke a b)⟩
theorem bar_h (a : ByteArray) (b : ByteArray) (h : OrgW w0 w p S m) (hm : m ≤ 60000) :
    Calls Tryz.prog 88 #[ptr p, .string a, .string b] w fun e w' => e = .returned (.int .i64 (S.bar a b).1) ∧ OrgW w0 w' p (S.bar a b).2 (m + 1) := by
  obtain ⟨own, h1, hI, h3, h4⟩ := h
  have hep : S.ep < 1000000 := by have := hI.ep; omega
  have hes : S.es.length ≤ 60000 := Nat.le_trans hI.es hm
  have htu : S.turns < 4000000000 := by have := hI.turns; omega
  exact (bar_any a b h1 hep).mono fun e w' k => ⟨k.1, OrgW.post h3 h4 k.2 (hI.bar a b)⟩
theorem unbar_h (a : ByteArray) (b : ByteArray) (h : OrgW w0 w p S m) (hm : m ≤ 60000) :
    Calls Tryz.prog 89 #[ptr p, .string a, .string b] w fun e w' => e = .returned (.int .i64 (S.unbar a b).1) ∧ OrgW w0 w' p (S.unbar a b).2 (m + 1) := by
  obtain ⟨own, h1, hI, h3, h4⟩ := h
  have hep : S.ep < 1000000 := by have := hI.ep; omega
  have hes : S.es.length ≤ 60000 := Nat.le_trans hI.es hm
  have htu : S.turns < 4000000000 := by have := hI.turns; omega
  exact (unbar_any a b h1 hep).mono fun e w' k => ⟨k.1, OrgW.post h3 h4 k.2 (hI.unbar a b)⟩
theorem lend_h (a : ByteArray) (b : ByteArray) (n : Int) (h : OrgW w0 w p S m) (hm : m ≤ 60000) :
    Calls Tryz.prog 25 #[ptr p, .string a, .string b, .int .i64 n] w fun e w' => e = .returned (.int .i64 (S.lend a b n).1) ∧ OrgW w0 w' p (S.lend a b n).2 (m + 1) := by
  obtain ⟨own, h1, hI, h3, h4⟩ := h
  have hep : S.ep < 1000000 := by have := hI.ep; omega
  have hes : S.es.length ≤ 60000 := Nat.le_trans hI.es hm
  have htu : S.turns < 4000000000 := by have := hI.turns; omega
  exact (lend_any a b n h1 hep hes htu).mono fun e w' k => ⟨k.1, OrgW.post h3 h4 k.2 (hI.lend a b n)⟩
theorem back_h (a : ByteArray) (b : ByteArray) (h : OrgW w0 w p S m) (hm : m ≤ 60000) :
    Calls Tryz.prog 29 #[ptr p, .string a, .string b] w fun e w' => e = .returned (.int .i64 (S.back a b).1) ∧ OrgW w0 w' p (S.back a b).2 (m + 1) := by
  obtain ⟨own, h1, hI, h3, h4⟩ := h
  have hep : S.ep < 1000000 := by have := hI.ep; omega
  have hes : S.es.length ≤ 60000 := Nat.le_trans hI.es hm
  have htu : S.turns < 4000000000 := by have := hI.turns; omega
  exact (back_any a b h1 hep hes).mono fun e w' k => ⟨k.1, OrgW.post h3 h4 k.2 (hI.back a b)⟩
theorem rest_h (a : ByteArray) (h : OrgW w0 w p S m) (hm : m ≤ 60000) :
    Calls Tryz.prog 90 #[ptr p, .string a] w fun e w' => e = .returned (.int .i64 (S.rest a).1) ∧ OrgW w0 w' p (S.rest a).2 (m + 1) := by
  obtain ⟨own, h1, hI, h3, h4⟩ := h
  have hep : S.ep < 1000000 := by have := hI.ep; omega
  have hes : S.es.length ≤ 60000 := Nat.le_trans hI.es hm
  have htu : S.turns < 4000000000 := by have := hI.turns; omega
  exact (rest_any a h1 hep).mono fun e w' k => ⟨k.1, OrgW.post h3 h4 k.2 (hI.rest a)⟩
theorem wake_h (a : ByteArray) (h : OrgW w0 w p S m) (hm : m ≤ 60000) :
    Calls Tryz.prog 91 #[ptr p, .string a] w fun e w' => e = .returned (.int .i64 (S.wake a).1) ∧ OrgW w0 w' p (S.wake a).2 (m + 1) := by
  obtain ⟨own, h1, hI, h3, h4⟩ := h
  have hep : S.ep < 1000000 := by have := hI.ep; omega
  have hes : S.es.length ≤ 60000 := Nat.le_trans hI.es hm
  have htu : S.turns < 4000000000 := by have := hI.turns; omega
  exact (wake_any a h1 hep).mono fun e w' k => ⟨k.1, OrgW.post h3 h4 k.2 (hI.wake a)⟩
theorem tick_h (n : Int) (h : OrgW w0 w p S m) (hm : m ≤ 60000) :
    Calls Tryz.prog 28 #[ptr p, .int .i64 n] w fun e w' => e = .returned (.int .i64 (S.tick n).1) ∧ OrgW w0 w' p (S.tick n).2 (m + 1) := by
  obtain ⟨own, h1, hI, h3, h4⟩ := h
  have hep : S.ep < 1000000 := by have := hI.ep; omega
  have hes : S.es.length ≤ 60000 := Nat.le_trans hI.es hm
  have htu : S.turns < 4000000000 := by have := hI.turns; omega
  exact (tick_any n h1 hep hes hI.now2).mono fun e w' k => ⟨k.1, OrgW.post h3 h4 k.2 (hI.tick n)⟩
/-- A list of names somewhere in memory. -/
def ListAt (w : World) (l : Value) (xs : List ByteArray) : Prop := ∃ ad c base, l = .slice ad xs.length c ∧ w.ownsRow base 9 1 (.slice ad xs.length c) xs.length (xs.map .string)
theorem NameList.at_ {l : Value} {xs : List ByteArray} (h : NameList w w' l xs) : ListAt w' l xs := by
  obtain ⟨⟨ad, c, rfl⟩, h2, h3⟩ := h
  exact ⟨ad, c, _, rfl, h3⟩
theorem can_h (a d : ByteArray) (h : OrgW w0 w p S m) : Calls Tryz.prog 20 #[ptr p, .string a, .string d] w fun e w' => e = .returned (.bool (S.can a d)) ∧ OrgW w0 w' p S m := by
  obtain ⟨own, h1, hI, h3, h4⟩ := h
  exact (can_any a d h1 hI.lent).mono fun e w' k => ⟨k.1, OrgW.ext ⟨own, h1, hI, h3, h4⟩ k.2⟩
theorem who_h (d : ByteArray) (h : OrgW w0 w p S m) : Calls Tryz.prog 35 #[ptr p, .string d] w fun e w' => e = .returned (.int .u64 (S.who d)) ∧ OrgW w0 w' p S m := by
  obtain ⟨own, h1, hI, h3, h4⟩ := h
  exact (who_any d h1 hI.lent).mono fun e w' k => ⟨k.1, OrgW.ext ⟨own, h1, hI, h3, h4⟩ k.2⟩
theorem now_h (h : OrgW w0 w p S m) : Calls Tryz.prog 24 #[ptr p] w fun e w' => e = .returned (.int .i64 S.now) ∧ w = w' := by
  obtain ⟨own, h1, hI, h3, h4⟩ := h
  exact now_any h1
theorem rests_h (a : ByteArray) (h : OrgW w0 w p S m) : Calls Tryz.prog 26 #[ptr p, .string a] w fun e w' => e = .returned (.bool (restsOf (S.findU a))) ∧ OrgW w0 w' p S m := by
  obtain ⟨own, h1, hI, h3, h4⟩ := h
  exact (rests_any a h1).mono fun e w' k => ⟨k.1, OrgW.ext ⟨own, h1, hI, h3, h4⟩ k.2⟩
theorem find_h (a : ByteArray) (h : OrgW w0 w p S m) : Calls Tryz.prog 34 #[ptr p, .string a] w fun e w' => e = .returned (.tuple #[.int .i64 (fstU (S.findU a) : Nat), .bool (S.findU a).isSome]) ∧ OrgW w0 w' p S m := by
  obtain ⟨own, h1, hI, h3, h4⟩ := h
  exact (find_any a h1).mono fun e w' k => ⟨k.1, OrgW.ext ⟨own, h1, hI, h3, h4⟩ k.2⟩
/-- What a call that tells a list leaves. -/
def TellPost (w0 w : World) (p : Nat) (S : OrgS) (m : Nat) (xs : List ByteArray) (e : Ending) (w' : World) : Prop := ∃ ad c base, e = .returned (.slice ad xs.length c) ∧ Ext w w' ∧ OrgW w0 w' p S m ∧ w.heap.size ≤ base ∧ w'.ownsRow base 9 1 (.slice ad xs.length c) xs.length (xs.map .string)
theorem tell_post (h : OrgW w0 w p S m) {xs : List ByteArray} {e : Ending} (k : ∃ l, e = .returned l ∧ NameList w w' l xs) : TellPost w0 w p S m xs e w' := by
  obtain ⟨l, rfl, ⟨ad, c, rfl⟩, h2, h3⟩ := k
  exact ⟨ad, c, _, rfl, h2, h.ext h2, Nat.le_refl _, h3⟩
theorem bars_h (a : ByteArray) (h : OrgW w0 w p S m) (hm : m ≤ 60000) : Calls Tryz.prog 27 #[ptr p, .string a] w (TellPost w0 w p S m (barsOf (S.findU a))) := by
  obtain ⟨own, h1, hI, h3, h4⟩ := h
  exact (bars_any a h1 (fun i u hu => Nat.le_trans (hI.bars i u (findU_some hu).1) (by omega))).mono fun e w' k => tell_post ⟨own, h1, hI, h3, h4⟩ k
theorem duties_h (a : ByteArray) (h : OrgW w0 w p S m) (hm : m ≤ 60000) : Calls Tryz.prog 23 #[ptr p, .string a] w (TellPost w0 w p S m (dutiesOf (S.findR a))) := by
  obtain ⟨own, h1, hI, h3, h4⟩ := h
  exact (duties_any a h1 (fun i u hu => Nat.le_trans (hI.duties i u (findR_some hu).1) (by omega))).mono fun e w' k => tell_post ⟨own, h1, hI, h3, h4⟩ k

/-- Of the known names those whose numbers are let in. -/
def pickS {α : Type} (names : List ByteArray) (ks : List (Option α)) (f : Nat → Bool) : List ByteArray := pickTo names (ks.map (Option.map fun _ => 0)) f ks.length
theorem pick_items {α : Type} {P : Nat → Nat → α → Prop} {names : List ByteArray} {kb : List (Option Nat)} {ks : List (Option α)} (h : Items P kb ks) (f : Nat → Bool) : pickTo names kb f kb.length = pickS names ks f := by
  unfold pickS pickTo
  rw [h.len]
  congr 1
  refine List.filter_congr fun i hi => ?_
  have hi : i < kb.length := by rw [h.len]; simpa using hi
  congr 1
  rw [List.getD_eq_getElem?_getD, List.getD_eq_getElem?_getD, List.getElem?_map]
  obtain ⟨x, hx⟩ : ∃ x, kb[i]? = some x := ⟨kb[i]'hi, List.getElem?_eq_getElem hi⟩
  rw [hx]
  cases x with
  | none => rw [h.none_ i hx]; rfl
  | some b => obtain ⟨u, hu, _⟩ := h.some_ i b hx; rw [hu]; rfl
theorem mem_pickS {α : Type} {names : List ByteArray} {ks : List (Option α)} {f : Nat → Bool} {x : ByteArray} : x ∈ pickS names ks f ↔ ∃ i u, ks[i]? = some (some u) ∧ f i = true ∧ names.getD i ⟨#[]⟩ = x := by
  unfold pickS pickTo
  rw [List.mem_map]
  constructor
  · rintro ⟨i, hi, hx⟩
    rw [List.mem_filter, Bool.and_eq_true] at hi
    obtain ⟨_, h1, h2⟩ := hi
    rw [List.getD_eq_getElem?_getD, List.getElem?_map] at h1
    cases hq : ks[i]? with
    | none => rw [hq] at h1; cases h1
    | some o =>
      cases o with
      | none => rw [hq] at h1; cases h1
      | some u => exact ⟨i, u, hq, h2, hx⟩
  · rintro ⟨i, u, h1, h2, h3⟩
    refine ⟨i, ?_, h3⟩
    rw [List.mem_filter, Bool.and_eq_true]
    refine ⟨?_, ?_, h2⟩
    · have := (List.getElem?_eq_some_iff.1 h1).1
      simpa using this
    · rw [List.getD_eq_getElem?_getD, List.getElem?_map, h1]; rfl
theorem pickS_length {α : Type} (names : List ByteArray) (ks : List (Option α)) (f : Nat → Bool) : (pickS names ks f).length ≤ ks.length := pickTo_le _ _ _ _
def rolesU (x : Option (Nat × UserS)) : Nat := match x with | some (_, u) => u.roles | none => 0
/-- The roles that a user was given. -/
def OrgS.joined (S : OrgS) (a : ByteArray) : List ByteArray := pickS S.rn S.rk fun i => (rolesU (S.findU a)).testBit i
theorem joined_any {own : Own} (a : ByteArray) (h : OrgAt w own p S) : Calls Tryz.prog 22 #[ptr p, .string a] w fun e w' => ∃ l, e = .returned l ∧ NameList w w' l (S.joined a) := by
  obtain ⟨mU, nU, kU, mR, nR, kR, br, pa, ub, rb, D, g⟩ := h
  unfold OrgS.joined
  rw [← pick_items g.rs]
  rcases g.findU a with ⟨i, b, u, h1, h2, hu, _⟩ | ⟨h1, h2⟩
  · rw [h2]
    obtain ⟨m, hb⟩ := userBlk hu
    exact joined_walk w p b i u.roles a _ _ _ (g.user_hit h1) hb fun W hW => g.allR_has u.roles hu.2.1 W hW
  · rw [h2]
    exact joined_miss w p a _ (g.user_miss h1) fun W hW => g.allR_has 0 (by decide) W hW
theorem joined_h (a : ByteArray) (h : OrgW w0 w p S m) : Calls Tryz.prog 22 #[ptr p, .string a] w (TellPost w0 w p S m (S.joined a)) := by
  obtain ⟨own, h1, hI, h3, h4⟩ := h
  exact (joined_any a h1).mono fun e w' k => tell_post ⟨own, h1, hI, h3, h4⟩ k
/-- What else holds of an organisation in memory. -/
theorem OrgW.facts (h : OrgW w0 w p S m) : (∀ i, S.J i < 18446744073709551616) ∧ (∀ (k : Nat) (u : UserS), S.uk[k]? = some (some u) → u.roles < 18446744073709551616) ∧ S.rn.Nodup ∧ S.un.Nodup := by
  obtain ⟨own, ⟨mU, nU, kU, mR, nR, kR, br, pa, ub, rb, D, g⟩, hI, h3, h4⟩ := h
  refine ⟨g.rk.lt, fun k u hk => ?_, g.rr.nodup, g.ru.nodup⟩
  have hl : k < ub.length := by rw [g.us.len]; exact (List.getElem?_eq_some_iff.1 hk).1
  obtain ⟨x, hx⟩ : ∃ x, ub[k]? = some x := ⟨ub[k]'hl, List.getElem?_eq_getElem hl⟩
  cases x with
  | none => rw [g.us.none_ k hx] at hk; cases hk
  | some b =>
    obtain ⟨v, hv, hu⟩ := g.us.some_ k b hx
    rw [hv] at hk
    injection hk with hk
    injection hk with hk
    subst hk
    exact hu.2.1
end
end Go.Proofs.YtnippamifihdpaaGreatDoor
namespace Go.Proofs.YtnippamifihdpaaGreatDoor
open Go Go.RowKit
set_option linter.unusedVariables false

abbrev nAnn : ByteArray := ⟨#[97, 110, 110]⟩
abbrev nClerk : ByteArray := ⟨#[99, 108, 101, 114, 107]⟩
abbrev nAsk : ByteArray := ⟨#[97, 115, 107]⟩
def wk2 : OrgS := ⟨[nAnn], [some ⟨0, [], false⟩], [nClerk], [some []], fun _ => 0, [], 0, 1, 2⟩
def wk3 : OrgS := ⟨[nAnn], [some ⟨0, [], false⟩], [nClerk], [some [nAsk]], fun _ => 0, [], 0, 1, 3⟩
def wk4 : OrgS := ⟨[nAnn], [some ⟨1, [], false⟩], [nClerk], [some [nAsk]], fun _ => 0, [], 0, 1, 4⟩
def wk1 : OrgS := ⟨[nAnn], [some ⟨0, [], false⟩], [], [], fun _ => 0, [], 0, 1, 1⟩
theorem wk_user : OrgS.zero.user nAnn = ((0, 0), wk1) := by kernel_rfl
theorem wk_role : wk1.role nClerk = ((0, 0), wk2) := by kernel_rfl
theorem wk_grant : wk2.grant nClerk nAsk = (0, wk3) := by kernel_rfl
theorem wk_join : wk3.join nAnn nClerk = (0, wk4) := by kernel_rfl
theorem wk_find3 : wk3.findU nAnn = some (0, ⟨0, [], false⟩) := by kernel_rfl
theorem wk_find4 : wk4.findU nAnn = some (0, ⟨1, [], false⟩) := by kernel_rfl
theorem wk_J (i : Nat) : (fun _ : Nat => 0) i < 18446744073709551616 := Nat.zero_lt_succ _
theorem wk_can3 : wk3.can nAnn nAsk = false := by
  cases hq : wk3.can nAnn nAsk
  · rfl
  · obtain ⟨i, u, h1, h2⟩ := can_iff.1 hq
    rw [wk_find3] at h1
    injection h1 with h1
    injection h1 with h3 h4
    subst h3 h4
    obtain ⟨_, _, j, h5, _⟩ := mayB_iff.1 h2
    unfold OrgS.has at h5
    rw [lentTo_bit] at h5
    rcases h5 with h5 | ⟨f, _, h6, _⟩
    · obtain ⟨i, hi, _⟩ := ((spread_is (J := wk3.J) wk_J (s := rolesOf wk3.uk 0) (by decide)).2 j).1 h5
      have : rolesOf wk3.uk 0 = 0 := rfl
      rw [this] at hi
      simp at hi
    · unfold lentB at h6
      cases h6
theorem wk_can4 : wk4.can nAnn nAsk = true :=
  can_own (j := 0) wk_J wk_find4 (by decide) (by decide) (by kernel_rfl) rfl (by simp)
theorem wk_who4 : wk4.who nAsk = 1 := by
  obtain ⟨i, u, h1, h2⟩ := can_iff.1 wk_can4
  rw [wk_find4] at h1
  injection h1 with h1
  injection h1 with h3 h4
  subst h3 h4
  show whoTo wk4 nAsk 1 = 1
  rw [whoTo_yes (u := ⟨1, [], false⟩) rfl h2]
  rfl

set_option maxRecDepth 100000 in
set_option maxHeartbeats 4000000 in
theorem wakes_any (w : World) (hT : Tab w) : Calls Tryz.prog 15 #[] w fun e w' => e = .returned (.bool true) ∧ Ext w w' := by
  have hnew := orgNew_walk w hT
  have HC3 := hid wk_can3
  have HC4 := hid wk_can4
  have HW4 := hid wk_who4
  clear hT
  go_enter Tryz.func15, Tryz.ntmps15
  go_wp2_with (first | (go_at_call 44; refine hnew.mono ?_; rintro r w1 ⟨p, rfl, hE, own, hO, hlo⟩; have HO := hid (OrgW.mk' hO inv_zero hE hlo); clear hE hO hlo) | (go_at_call 16; refine (user_h nAnn HO.out (by decide)).mono ?_; rintro r w2 ⟨rfl, hO⟩; rw [wk_user] at hO; rw [wk_user]; have HO1 := hid hO; clear hO) | (go_at_call 17; refine (role_h nClerk HO1.out (by decide)).mono ?_; rintro r w3 ⟨rfl, hO⟩; rw [wk_role] at hO; rw [wk_role]; have HO2 := hid hO; clear hO) | (go_at_call 19; refine (grant_h nClerk nAsk HO2.out (by decide)).mono ?_; rintro r w4 ⟨rfl, hO⟩; rw [wk_grant] at hO; rw [wk_grant]; have HO3 := hid hO; clear hO))
  refine (can_h nAnn nAsk HO3.out).mono ?_
  rintro r w5 ⟨rfl, hO⟩
  rw [HC3.out]
  have HO3b := hid hO
  clear hO
  go_wp2_with (go_at_call 18; refine (join_h nAnn nClerk HO3b.out (by decide)).mono ?_; rintro r w6 ⟨rfl, hO⟩; rw [wk_join] at hO; rw [wk_join]; have HO4 := hid hO; clear hO)
  refine (can_h nAnn nAsk HO4.out).mono ?_
  rintro r w7 ⟨rfl, hO⟩
  rw [HC4.out]
  have HO5 := hid hO
  clear hO
  go_wp2_with (first | (go_at_call 35; refine (who_h nAsk HO5.out).mono ?_; rintro r w8 ⟨rfl, hO⟩; rw [HW4.out]; have HO6 := hid hO; clear hO) | (go_at_call 24; refine (now_h HO6.out).mono ?_; rintro r w9 ⟨rfl, rfl⟩))
  go_ret
  exact ⟨rfl, HO6.out.old⟩
end Go.Proofs.YtnippamifihdpaaGreatDoor
