/- law09.alike, law09.same of two organisations that tell the same (printed by gen_alike.py). -/
import Derived.Test.YtnippamifihdpaaGreatDoorKTells
namespace Go.Proofs.YtnippamifihdpaaGreatDoor
open Go Go.RowKit
set_option linter.unusedVariables false
section
variable {w0 w W : World} {p q m n : Nat} {S T : OrgS}
theorem users_p (h : Org2 w0 w p S m q T n) (hE : Ext w W) : Calls Tryz.prog 30 #[ptr p] W (Told w0 W S.users) := users_t (h.left.ext hE)
theorem users_q (h : Org2 w0 w p S m q T n) (he : TellSame S T) (hE : Ext w W) : Calls Tryz.prog 30 #[ptr q] W (Told w0 W S.users) := by
  rw [← he.users]
  exact users_t (h.right.ext hE)
theorem roles_p (h : Org2 w0 w p S m q T n) (hE : Ext w W) : Calls Tryz.prog 40 #[ptr p] W (Told w0 W S.roles) := roles_t (h.left.ext hE)
theorem roles_q (h : Org2 w0 w p S m q T n) (he : TellSame S T) (hE : Ext w W) : Calls Tryz.prog 40 #[ptr q] W (Told w0 W S.roles) := by
  rw [← he.roles]
  exact roles_t (h.right.ext hE)
theorem joined_p (s : ByteArray) (h : Org2 w0 w p S m q T n) (hE : Ext w W) : Calls Tryz.prog 22 #[ptr p, .string s] W (Told w0 W (S.joined s)) := joined_t s (h.left.ext hE)
theorem joined_q (s : ByteArray) (h : Org2 w0 w p S m q T n) (he : TellSame S T) (hE : Ext w W) : Calls Tryz.prog 22 #[ptr q, .string s] W (Told w0 W (S.joined s)) := by
  rw [← he.joined s]
  exact joined_t s (h.right.ext hE)
theorem held_p (s : ByteArray) (h : Org2 w0 w p S m q T n) (hE : Ext w W) : Calls Tryz.prog 33 #[ptr p, .string s] W (Told w0 W (S.held s)) := held_t s (h.left.ext hE)
theorem held_q (s : ByteArray) (h : Org2 w0 w p S m q T n) (he : TellSame S T) (hE : Ext w W) : Calls Tryz.prog 33 #[ptr q, .string s] W (Told w0 W (S.held s)) := by
  rw [← he.held s]
  exact held_t s (h.right.ext hE)
theorem bars_p (s : ByteArray) (h : Org2 w0 w p S m q T n) (hE : Ext w W) (hm : m ≤ 60000) : Calls Tryz.prog 27 #[ptr p, .string s] W (Told w0 W (barsOf (S.findU s))) := bars_t s (h.left.ext hE) hm
theorem bars_q (s : ByteArray) (h : Org2 w0 w p S m q T n) (he : TellSame S T) (hE : Ext w W) (hn : n ≤ 60000) : Calls Tryz.prog 27 #[ptr q, .string s] W (Told w0 W (barsOf (S.findU s))) := by
  rw [← he.findU s]
  exact bars_t s (h.right.ext hE) hn
theorem juniors_p (s : ByteArray) (h : Org2 w0 w p S m q T n) (hE : Ext w W) : Calls Tryz.prog 42 #[ptr p, .string s] W (Told w0 W (S.juniors s)) := juniors_t s (h.left.ext hE)
theorem juniors_q (s : ByteArray) (h : Org2 w0 w p S m q T n) (he : TellSame S T) (hE : Ext w W) : Calls Tryz.prog 42 #[ptr q, .string s] W (Told w0 W (S.juniors s)) := by
  rw [← he.juniors s]
  exact juniors_t s (h.right.ext hE)
theorem duties_p (s : ByteArray) (h : Org2 w0 w p S m q T n) (hE : Ext w W) (hm : m ≤ 60000) : Calls Tryz.prog 23 #[ptr p, .string s] W (Told w0 W (dutiesOf (S.findR s))) := duties_t s (h.left.ext hE) hm
theorem duties_q (s : ByteArray) (h : Org2 w0 w p S m q T n) (he : TellSame S T) (hE : Ext w W) (hn : n ≤ 60000) : Calls Tryz.prog 23 #[ptr q, .string s] W (Told w0 W (dutiesOf (S.findR s))) := by
  rw [← he.findR s]
  exact duties_t s (h.right.ext hE) hn
theorem rests_p (s : ByteArray) (h : Org2 w0 w p S m q T n) (hE : Ext w W) : Calls Tryz.prog 26 #[ptr p, .string s] W fun e w' => e = .returned (.bool (restsOf (S.findU s))) ∧ Ext W w' := rests_t s (h.left.ext hE)
theorem rests_q (s : ByteArray) (h : Org2 w0 w p S m q T n) (he : TellSame S T) (hE : Ext w W) : Calls Tryz.prog 26 #[ptr q, .string s] W fun e w' => e = .returned (.bool (restsOf (S.findU s))) ∧ Ext W w' := by
  rw [← he.findU s]
  exact rests_t s (h.right.ext hE)
end

set_option maxRecDepth 100000 in
set_option maxHeartbeats 64000000 in
theorem same_true {w0 w : World} {p q m n : Nat} {S T : OrgS} (h : Org2 w0 w p S m q T n) (hm : m ≤ 60000) (hn : n ≤ 60000) (he : TellSame S T) (LA : World → Value → Prop)
    (hlp : ∀ W, Ext w W → Calls Tryz.prog 31 #[ptr p] W fun e w' => ∃ l, e = .returned l ∧ Ext W w' ∧ LA w' l) (hlq : ∀ W, Ext w W → Calls Tryz.prog 31 #[ptr q] W fun e w' => ∃ l, e = .returned l ∧ Ext W w' ∧ LA w' l)
    (hll : ∀ W l1 l2, LA W l1 → LA W l2 → Calls Tryz.prog 93 #[l1, l2] W fun e w' => e = .returned (.bool true) ∧ Ext W w') (hlk : ∀ W W' l, Ext W W' → LA W l → LA W' l) :
    Calls Tryz.prog 39 #[ptr p, ptr q] w fun e w' => e = .returned (.bool true) ∧ Ext w w' := by
  have HO := hid h
  have HEQ := hid he
  have HLP := hid hlp
  have HLQ := hid hlq
  have HLL' := hid hll
  have HLK := hid hlk
  clear h he hlp hlq hll hlk
  go_enter Tryz.func39, Tryz.ntmps39
  go_wp2_with (first | (go_at_call_of 24 p; refine (now_h HO.out.left).mono ?_; rintro r y1 ⟨rfl, rfl⟩) | (go_at_call_of 24 q; refine (now_h HO.out.right).mono ?_; rintro r y2 ⟨rfl, rfl⟩; rw [HEQ.out.now]))
  refine (users_p HO.out (Ext.refl w)).mono ?_
  rintro r z1 ⟨ad1, c1, b1, rfl, hE, _, hl⟩
  have HZ1 := hid (Fr.trans (Ext.refl w) hE)
  have HL1 := hid hl
  clear hE hl
  go_wp2_with fail
  refine (users_q HO.out HEQ.out HZ1.out).mono ?_
  rintro r z2 ⟨ad2, c2, b2, rfl, hE, _, hl⟩
  have HZ2 := hid (Fr.trans HZ1.out hE)
  have HE2 := hid hE
  have HL2 := hid hl
  clear hE hl
  go_wp2_with fail
  refine (texts_same _ b1 b2 c1 c2 _ ad1 ad2 S.users rfl (Nat.le_trans (users_length HO.out.inv1) (by omega)) (ownsRow_ext HL1.out HE2.out) HL2.out).mono ?_
  rintro r z3 ⟨rfl, hE⟩
  have HZ3 := hid (Fr.trans HZ2.out hE)
  clear hE
  go_wp2_with fail
  refine (roles_p HO.out HZ3.out).mono ?_
  rintro r z4 ⟨ad4, c4, b4, rfl, hE, _, hl⟩
  have HZ4 := hid (Fr.trans HZ3.out hE)
  have HL4 := hid hl
  clear hE hl
  go_wp2_with fail
  refine (roles_q HO.out HEQ.out HZ4.out).mono ?_
  rintro r z5 ⟨ad5, c5, b5, rfl, hE, _, hl⟩
  have HZ5 := hid (Fr.trans HZ4.out hE)
  have HE5 := hid hE
  have HL5 := hid hl
  clear hE hl
  go_wp2_with fail
  refine (texts_same _ b4 b5 c4 c5 _ ad4 ad5 S.roles rfl (Nat.le_trans (roles_length HO.out.inv1) (by omega)) (ownsRow_ext HL4.out HE5.out) HL5.out).mono ?_
  rintro r z6 ⟨rfl, hE⟩
  have HZ6 := hid (Fr.trans HZ5.out hE)
  clear hE
  go_wp2_with fail
  refine (HLP.out _ HZ6.out).mono ?_
  rintro r z7 ⟨l7, rfl, hE, hl⟩
  have HZ7 := hid (Fr.trans HZ6.out hE)
  have HL7 := hid hl
  clear hE hl
  go_wp2_with fail
  refine (HLQ.out _ HZ7.out).mono ?_
  rintro r z8 ⟨l8, rfl, hE, hl⟩
  have HZ8 := hid (Fr.trans HZ7.out hE)
  have HE8 := hid hE
  have HL8 := hid hl
  clear hE hl
  go_wp2_with fail
  refine (HLL'.out _ l7 l8 (HLK.out _ _ _ HE8.out HL7.out) HL8.out).mono ?_
  rintro r z9 ⟨rfl, hE⟩
  have HZ9 := hid (Fr.trans HZ8.out hE)
  clear hE
  go_wp2_with fail
  refine (users_p HO.out HZ9.out).mono ?_
  rintro r wA ⟨adl, cl, bl, rfl, hE, _, hl⟩
  have HOL := hid (HO.out.ext (Fr.trans HZ9.out hE))
  have HWL := hid (Fr.trans HZ9.out hE)
  obtain ⟨wl, hwl⟩ : ∃ wl, wl = wA := ⟨_, rfl⟩
  subst hwl
  obtain ⟨nl, hnl⟩ : ∃ nl, S.users.length = nl := ⟨_, rfl⟩
  rw [hnl] at hl ⊢
  have hnlb : nl ≤ 64 := by rw [← hnl]; exact users_length HOL.out.inv1
  have HLL := hid hl
  have HLN := hid hnl
  clear hE hl hnl
  go_wp2_with fail
  have HOB := HO
  clear HO
  have HO := HOL
  have H0 : Hid (UserRel wl nl (.int .i64 ((0 : Nat) : Int)) wl) := hid ⟨0, rfl, Nat.zero_le _, Ext.refl wl⟩
  go_loopw [6] (fun i wr => UserRel wl nl i wr) (fun i _ => nl - numOf i)
  case atStart => exact H0.out
  case round =>
    clear H0
    obtain ⟨k, rfl, hk, hE⟩ := hrel
    by_cases hlt : k < nl
    · obtain ⟨s, hs⟩ : ∃ s, S.users[k]? = some s := ⟨S.users[k]'(by rw [HLN.out]; exact hlt), List.getElem?_eq_getElem (by rw [HLN.out]; exact hlt)⟩
      obtain ⟨gu, rfl, hcs⟩ : ∃ g, adl = some ⟨g, 0, none⟩ ∧ ∀ W, Ext wl W → W.cell? ⟨g, k, none⟩ = some (.string s) := by
        obtain ⟨g, hg, hc⟩ := list_cell HLL.out hs
        exact ⟨g, hg, fun W hW => (hW.cell (a := ⟨g, k, none⟩) (World.block_lt_of_cell? wl _ hc) id).trans hc⟩
      have cs := hcs wr hE
      have hk1 : (k : Int) < (nl : Int) := by omega
      have hk2 : decide ((k : Int) < (nl : Int)) = true := by simp; omega
      have hk0 : (0 : Int) ≤ k := by omega
      obtain ⟨k1, hk1'⟩ : ∃ k1, k + 1 = k1 := ⟨_, rfl⟩
      have e1 : (k : Int) + 1 = (k1 : Int) := by omega
      have hk1le : k1 ≤ nl := by omega
      have HE := hid hE
      have HCS := hid hcs
      clear hs hk1' hk hE hcs
      go_wp2_with fail
      go_region_held3 (fun w' => w'.cell? ⟨gu, k, none⟩ = some (.string s)) (assumption) (first | (go_at_call_of 33 p; refine (held_p s HO.out (HE.out.drew)).mono ?_; rintro r x1 ⟨ad1, c1, b1, rfl, hE, _, hl⟩; have HX1 := hid (Fr.trans (HE.out.drew) hE); have HL1 := hid hl; have cs := HCS.out x1 HX1.out; clear hE hl) | (go_at_call_of 33 q; refine (held_q s HO.out HEQ.out HX1.out).mono ?_; rintro r x2 ⟨ad2, c2, b2, rfl, hE, _, hl⟩; have HX2 := hid (Fr.trans HX1.out hE); have HE2 := hid hE; have HL2 := hid hl; have cs := HCS.out x2 HX2.out; clear hE hl) | (go_at_call_of 57 ad1; refine (texts_same _ b1 b2 c1 c2 _ ad1 ad2 (S.held s) rfl (Nat.le_trans (held_length HO.out.inv1 s) (by omega)) (ownsRow_ext HL1.out HE2.out) HL2.out).mono ?_; rintro r x3 ⟨rfl, hE⟩; have HX3 := hid (Fr.trans HX2.out hE); have cs := HCS.out x3 HX3.out; clear hE) | (go_at_call_of 27 p; refine (bars_p s HO.out HX3.out hm).mono ?_; rintro r x4 ⟨ad4, c4, b4, rfl, hE, _, hl⟩; have HX4 := hid (Fr.trans HX3.out hE); have HL4 := hid hl; have cs := HCS.out x4 HX4.out; clear hE hl) | (go_at_call_of 27 q; refine (bars_q s HO.out HEQ.out HX4.out hn).mono ?_; rintro r x5 ⟨ad5, c5, b5, rfl, hE, _, hl⟩; have HX5 := hid (Fr.trans HX4.out hE); have HE5 := hid hE; have HL5 := hid hl; have cs := HCS.out x5 HX5.out; clear hE hl) | (go_at_call_of 57 ad4; refine (texts_same _ b4 b5 c4 c5 _ ad4 ad5 (barsOf (S.findU s)) rfl (barsOf_length S HO.out.inv1 s (by omega)) (ownsRow_ext HL4.out HE5.out) HL5.out).mono ?_; rintro r x6 ⟨rfl, hE⟩; have HX6 := hid (Fr.trans HX5.out hE); have cs := HCS.out x6 HX6.out; clear hE) | (go_at_call_of 26 p; refine (rests_p s HO.out HX6.out).mono ?_; rintro r x7 ⟨rfl, hE⟩; have HX7 := hid (Fr.trans HX6.out hE); have cs := HCS.out x7 HX7.out; clear hE) | (go_at_call_of 26 q; refine (rests_q s HO.out HEQ.out HX7.out).mono ?_; rintro r x8 ⟨rfl, hE⟩; have HX8 := hid (Fr.trans HX7.out hE); have cs := HCS.out x8 HX8.out; clear hE))
      go_wp2_with fail
      go_roundw
      case rel => exact ⟨k1, rfl, hk1le, HX8.out⟩
      case measure => simp only [numOf]; omega
    · have hk2 : decide ((k : Int) < (nl : Int)) = false := by simp; omega
      have HE := hid hE
      clear hk hE
      have HWL0 := HWL
      go_wp2_with fail
      refine (roles_p HOB.out (HWL0.out.trans HE.out)).mono ?_
      rintro r wl2 ⟨adl, cl, bl, rfl, hE, _, hl⟩
      have HOL := hid (HOB.out.ext (Fr.trans (HWL0.out.trans HE.out) hE))
      have HWL := hid (Fr.trans (HWL0.out.trans HE.out) hE)
      obtain ⟨wl, hwl⟩ : ∃ wl, wl = wl2 := ⟨_, rfl⟩
      subst hwl
      obtain ⟨nl, hnl⟩ : ∃ nl, S.roles.length = nl := ⟨_, rfl⟩
      rw [hnl] at hl ⊢
      have hnlb : nl ≤ 64 := by rw [← hnl]; exact roles_length HOL.out.inv1
      have HLL := hid hl
      have HLN := hid hnl
      clear hE hl hnl
      go_wp2_with fail
      clear HO
      have HO := HOL
      have H0 : Hid (UserRel wl nl (.int .i64 ((0 : Nat) : Int)) wl) := hid ⟨0, rfl, Nat.zero_le _, Ext.refl wl⟩
      go_loopw [8] (fun i wr => UserRel wl nl i wr) (fun i _ => nl - numOf i)
      case atStart => exact H0.out
      case round =>
        clear H0
        obtain ⟨k, rfl, hk, hE⟩ := hrel
        by_cases hlt : k < nl
        · obtain ⟨s, hs⟩ : ∃ s, S.roles[k]? = some s := ⟨S.roles[k]'(by rw [HLN.out]; exact hlt), List.getElem?_eq_getElem (by rw [HLN.out]; exact hlt)⟩
          obtain ⟨gu, rfl, hcs⟩ : ∃ g, adl = some ⟨g, 0, none⟩ ∧ ∀ W, Ext wl W → W.cell? ⟨g, k, none⟩ = some (.string s) := by
            obtain ⟨g, hg, hc⟩ := list_cell HLL.out hs
            exact ⟨g, hg, fun W hW => (hW.cell (a := ⟨g, k, none⟩) (World.block_lt_of_cell? wl _ hc) id).trans hc⟩
          have cs := hcs wr hE
          have hk1 : (k : Int) < (nl : Int) := by omega
          have hk2 : decide ((k : Int) < (nl : Int)) = true := by simp; omega
          have hk0 : (0 : Int) ≤ k := by omega
          obtain ⟨k1, hk1'⟩ : ∃ k1, k + 1 = k1 := ⟨_, rfl⟩
          have e1 : (k : Int) + 1 = (k1 : Int) := by omega
          have hk1le : k1 ≤ nl := by omega
          have HE := hid hE
          have HCS := hid hcs
          clear hs hk1' hk hE hcs
          go_wp2_with fail
          go_region_held3 (fun w' => w'.cell? ⟨gu, k, none⟩ = some (.string s)) (assumption) (first | (go_at_call_of 42 p; refine (juniors_p s HO.out (HE.out.drew)).mono ?_; rintro r x1 ⟨ad1, c1, b1, rfl, hE, _, hl⟩; have HX1 := hid (Fr.trans (HE.out.drew) hE); have HL1 := hid hl; have cs := HCS.out x1 HX1.out; clear hE hl) | (go_at_call_of 42 q; refine (juniors_q s HO.out HEQ.out HX1.out).mono ?_; rintro r x2 ⟨ad2, c2, b2, rfl, hE, _, hl⟩; have HX2 := hid (Fr.trans HX1.out hE); have HE2 := hid hE; have HL2 := hid hl; have cs := HCS.out x2 HX2.out; clear hE hl) | (go_at_call_of 57 ad1; refine (texts_same _ b1 b2 c1 c2 _ ad1 ad2 (S.juniors s) rfl (Nat.le_trans (juniors_length HO.out.inv1 s) (by omega)) (ownsRow_ext HL1.out HE2.out) HL2.out).mono ?_; rintro r x3 ⟨rfl, hE⟩; have HX3 := hid (Fr.trans HX2.out hE); have cs := HCS.out x3 HX3.out; clear hE) | (go_at_call_of 23 p; refine (duties_p s HO.out HX3.out hm).mono ?_; rintro r x4 ⟨ad4, c4, b4, rfl, hE, _, hl⟩; have HX4 := hid (Fr.trans HX3.out hE); have HL4 := hid hl; have cs := HCS.out x4 HX4.out; clear hE hl) | (go_at_call_of 23 q; refine (duties_q s HO.out HEQ.out HX4.out hn).mono ?_; rintro r x5 ⟨ad5, c5, b5, rfl, hE, _, hl⟩; have HX5 := hid (Fr.trans HX4.out hE); have HE5 := hid hE; have HL5 := hid hl; have cs := HCS.out x5 HX5.out; clear hE hl) | (go_at_call_of 57 ad4; refine (texts_same _ b4 b5 c4 c5 _ ad4 ad5 (dutiesOf (S.findR s)) rfl (Nat.le_trans (dutiesOf_length S HO.out.inv1 s) (by omega)) (ownsRow_ext HL4.out HE5.out) HL5.out).mono ?_; rintro r x6 ⟨rfl, hE⟩; have HX6 := hid (Fr.trans HX5.out hE); have cs := HCS.out x6 HX6.out; clear hE))
          go_wp2_with fail
          go_roundw
          case rel => exact ⟨k1, rfl, hk1le, HX6.out⟩
          case measure => simp only [numOf]; omega
        · have hk2 : decide ((k : Int) < (nl : Int)) = false := by simp; omega
          have HE := hid hE
          clear hk hE
          go_wp2_with fail
          go_ret
          exact ⟨rfl, HWL.out.trans HE.out⟩
set_option maxRecDepth 100000 in
set_option maxHeartbeats 64000000 in
theorem alike_true {w0 w : World} {p q m n : Nat} {S T : OrgS} (h : Org2 w0 w p S m q T n) (hm : m ≤ 60000) (hn : n ≤ 60000) (he : TellSame S T) (hep : T.ep = S.ep) (LA : World → Value → Prop)
    (hlp : ∀ W, Ext w W → Calls Tryz.prog 31 #[ptr p] W fun e w' => ∃ l, e = .returned l ∧ Ext W w' ∧ LA w' l) (hlq : ∀ W, Ext w W → Calls Tryz.prog 31 #[ptr q] W fun e w' => ∃ l, e = .returned l ∧ Ext W w' ∧ LA w' l)
    (hll : ∀ W l1 l2, LA W l1 → LA W l2 → Calls Tryz.prog 93 #[l1, l2] W fun e w' => e = .returned (.bool true) ∧ Ext W w') (hlk : ∀ W W' l, Ext W W' → LA W l → LA W' l) :
    Calls Tryz.prog 38 #[ptr p, ptr q] w fun e w' => e = .returned (.bool true) ∧ Ext w w' := by
  have HO := hid h
  have HEQ := hid he
  have HLP := hid hlp
  have HLQ := hid hlq
  have HLL' := hid hll
  have HLK := hid hlk
  have HEP := hid hep
  clear h he hlp hlq hll hlk hep
  go_enter Tryz.func38, Tryz.ntmps38
  go_wp2_with (first | (go_at_call_of 24 p; refine (now_h HO.out.left).mono ?_; rintro r y1 ⟨rfl, rfl⟩) | (go_at_call_of 24 q; refine (now_h HO.out.right).mono ?_; rintro r y2 ⟨rfl, rfl⟩; rw [HEQ.out.now]) | (go_at_call_of 36 p; refine (epoch_t HO.out.left).mono ?_; rintro r y3 ⟨rfl, rfl⟩) | (go_at_call_of 36 q; refine (epoch_t HO.out.right).mono ?_; rintro r y4 ⟨rfl, rfl⟩; rw [HEP.out]) | (go_at_call_of 92 p; refine (size_t HO.out.left).mono ?_; rintro r y5 ⟨rfl, rfl⟩) | (go_at_call_of 92 q; refine (size_t HO.out.right).mono ?_; rintro r y6 ⟨rfl, rfl⟩; rw [HEQ.out.un]))
  refine (users_p HO.out (Ext.refl w)).mono ?_
  rintro r z1 ⟨ad1, c1, b1, rfl, hE, _, hl⟩
  have HZ1 := hid (Fr.trans (Ext.refl w) hE)
  have HL1 := hid hl
  clear hE hl
  go_wp2_with fail
  refine (users_q HO.out HEQ.out HZ1.out).mono ?_
  rintro r z2 ⟨ad2, c2, b2, rfl, hE, _, hl⟩
  have HZ2 := hid (Fr.trans HZ1.out hE)
  have HE2 := hid hE
  have HL2 := hid hl
  clear hE hl
  go_wp2_with fail
  refine (texts_same _ b1 b2 c1 c2 _ ad1 ad2 S.users rfl (Nat.le_trans (users_length HO.out.inv1) (by omega)) (ownsRow_ext HL1.out HE2.out) HL2.out).mono ?_
  rintro r z3 ⟨rfl, hE⟩
  have HZ3 := hid (Fr.trans HZ2.out hE)
  clear hE
  go_wp2_with fail
  refine (roles_p HO.out HZ3.out).mono ?_
  rintro r z4 ⟨ad4, c4, b4, rfl, hE, _, hl⟩
  have HZ4 := hid (Fr.trans HZ3.out hE)
  have HL4 := hid hl
  clear hE hl
  go_wp2_with fail
  refine (roles_q HO.out HEQ.out HZ4.out).mono ?_
  rintro r z5 ⟨ad5, c5, b5, rfl, hE, _, hl⟩
  have HZ5 := hid (Fr.trans HZ4.out hE)
  have HE5 := hid hE
  have HL5 := hid hl
  clear hE hl
  go_wp2_with fail
  refine (texts_same _ b4 b5 c4 c5 _ ad4 ad5 S.roles rfl (Nat.le_trans (roles_length HO.out.inv1) (by omega)) (ownsRow_ext HL4.out HE5.out) HL5.out).mono ?_
  rintro r z6 ⟨rfl, hE⟩
  have HZ6 := hid (Fr.trans HZ5.out hE)
  clear hE
  go_wp2_with fail
  refine (HLP.out _ HZ6.out).mono ?_
  rintro r z7 ⟨l7, rfl, hE, hl⟩
  have HZ7 := hid (Fr.trans HZ6.out hE)
  have HL7 := hid hl
  clear hE hl
  go_wp2_with fail
  refine (HLQ.out _ HZ7.out).mono ?_
  rintro r z8 ⟨l8, rfl, hE, hl⟩
  have HZ8 := hid (Fr.trans HZ7.out hE)
  have HE8 := hid hE
  have HL8 := hid hl
  clear hE hl
  go_wp2_with fail
  refine (HLL'.out _ l7 l8 (HLK.out _ _ _ HE8.out HL7.out) HL8.out).mono ?_
  rintro r z9 ⟨rfl, hE⟩
  have HZ9 := hid (Fr.trans HZ8.out hE)
  clear hE
  go_wp2_with fail
  refine (users_p HO.out HZ9.out).mono ?_
  rintro r wA ⟨adl, cl, bl, rfl, hE, _, hl⟩
  have HOL := hid (HO.out.ext (Fr.trans HZ9.out hE))
  have HWL := hid (Fr.trans HZ9.out hE)
  obtain ⟨wl, hwl⟩ : ∃ wl, wl = wA := ⟨_, rfl⟩
  subst hwl
  obtain ⟨nl, hnl⟩ : ∃ nl, S.users.length = nl := ⟨_, rfl⟩
  rw [hnl] at hl ⊢
  have hnlb : nl ≤ 64 := by rw [← hnl]; exact users_length HOL.out.inv1
  have HLL := hid hl
  have HLN := hid hnl
  clear hE hl hnl
  go_wp2_with fail
  have HOB := HO
  clear HO
  have HO := HOL
  have H0 : Hid (UserRel wl nl (.int .i64 ((0 : Nat) : Int)) wl) := hid ⟨0, rfl, Nat.zero_le _, Ext.refl wl⟩
  go_loopw [6] (fun i wr => UserRel wl nl i wr) (fun i _ => nl - numOf i)
  case atStart => exact H0.out
  case round =>
    clear H0
    obtain ⟨k, rfl, hk, hE⟩ := hrel
    by_cases hlt : k < nl
    · obtain ⟨s, hs⟩ : ∃ s, S.users[k]? = some s := ⟨S.users[k]'(by rw [HLN.out]; exact hlt), List.getElem?_eq_getElem (by rw [HLN.out]; exact hlt)⟩
      obtain ⟨gu, rfl, hcs⟩ : ∃ g, adl = some ⟨g, 0, none⟩ ∧ ∀ W, Ext wl W → W.cell? ⟨g, k, none⟩ = some (.string s) := by
        obtain ⟨g, hg, hc⟩ := list_cell HLL.out hs
        exact ⟨g, hg, fun W hW => (hW.cell (a := ⟨g, k, none⟩) (World.block_lt_of_cell? wl _ hc) id).trans hc⟩
      have cs := hcs wr hE
      have hk1 : (k : Int) < (nl : Int) := by omega
      have hk2 : decide ((k : Int) < (nl : Int)) = true := by simp; omega
      have hk0 : (0 : Int) ≤ k := by omega
      obtain ⟨k1, hk1'⟩ : ∃ k1, k + 1 = k1 := ⟨_, rfl⟩
      have e1 : (k : Int) + 1 = (k1 : Int) := by omega
      have hk1le : k1 ≤ nl := by omega
      have HE := hid hE
      have HCS := hid hcs
      clear hs hk1' hk hE hcs
      go_wp2_with fail
      go_region_held3 (fun w' => w'.cell? ⟨gu, k, none⟩ = some (.string s)) (assumption) (first | (go_at_call_of 22 p; refine (joined_p s HO.out (HE.out.drew)).mono ?_; rintro r x1 ⟨ad1, c1, b1, rfl, hE, _, hl⟩; have HX1 := hid (Fr.trans (HE.out.drew) hE); have HL1 := hid hl; have cs := HCS.out x1 HX1.out; clear hE hl) | (go_at_call_of 22 q; refine (joined_q s HO.out HEQ.out HX1.out).mono ?_; rintro r x2 ⟨ad2, c2, b2, rfl, hE, _, hl⟩; have HX2 := hid (Fr.trans HX1.out hE); have HE2 := hid hE; have HL2 := hid hl; have cs := HCS.out x2 HX2.out; clear hE hl) | (go_at_call_of 57 ad1; refine (texts_same _ b1 b2 c1 c2 _ ad1 ad2 (S.joined s) rfl (Nat.le_trans (joined_length S HO.out.inv1 s) (by omega)) (ownsRow_ext HL1.out HE2.out) HL2.out).mono ?_; rintro r x3 ⟨rfl, hE⟩; have HX3 := hid (Fr.trans HX2.out hE); have cs := HCS.out x3 HX3.out; clear hE) | (go_at_call_of 33 p; refine (held_p s HO.out HX3.out).mono ?_; rintro r x4 ⟨ad4, c4, b4, rfl, hE, _, hl⟩; have HX4 := hid (Fr.trans HX3.out hE); have HL4 := hid hl; have cs := HCS.out x4 HX4.out; clear hE hl) | (go_at_call_of 33 q; refine (held_q s HO.out HEQ.out HX4.out).mono ?_; rintro r x5 ⟨ad5, c5, b5, rfl, hE, _, hl⟩; have HX5 := hid (Fr.trans HX4.out hE); have HE5 := hid hE; have HL5 := hid hl; have cs := HCS.out x5 HX5.out; clear hE hl) | (go_at_call_of 57 ad4; refine (texts_same _ b4 b5 c4 c5 _ ad4 ad5 (S.held s) rfl (Nat.le_trans (held_length HO.out.inv1 s) (by omega)) (ownsRow_ext HL4.out HE5.out) HL5.out).mono ?_; rintro r x6 ⟨rfl, hE⟩; have HX6 := hid (Fr.trans HX5.out hE); have cs := HCS.out x6 HX6.out; clear hE) | (go_at_call_of 27 p; refine (bars_p s HO.out HX6.out hm).mono ?_; rintro r x7 ⟨ad7, c7, b7, rfl, hE, _, hl⟩; have HX7 := hid (Fr.trans HX6.out hE); have HL7 := hid hl; have cs := HCS.out x7 HX7.out; clear hE hl) | (go_at_call_of 27 q; refine (bars_q s HO.out HEQ.out HX7.out hn).mono ?_; rintro r x8 ⟨ad8, c8, b8, rfl, hE, _, hl⟩; have HX8 := hid (Fr.trans HX7.out hE); have HE8 := hid hE; have HL8 := hid hl; have cs := HCS.out x8 HX8.out; clear hE hl) | (go_at_call_of 57 ad7; refine (texts_same _ b7 b8 c7 c8 _ ad7 ad8 (barsOf (S.findU s)) rfl (barsOf_length S HO.out.inv1 s (by omega)) (ownsRow_ext HL7.out HE8.out) HL8.out).mono ?_; rintro r x9 ⟨rfl, hE⟩; have HX9 := hid (Fr.trans HX8.out hE); have cs := HCS.out x9 HX9.out; clear hE) | (go_at_call_of 26 p; refine (rests_p s HO.out HX9.out).mono ?_; rintro r x10 ⟨rfl, hE⟩; have HX10 := hid (Fr.trans HX9.out hE); have cs := HCS.out x10 HX10.out; clear hE) | (go_at_call_of 26 q; refine (rests_q s HO.out HEQ.out HX10.out).mono ?_; rintro r x11 ⟨rfl, hE⟩; have HX11 := hid (Fr.trans HX10.out hE); have cs := HCS.out x11 HX11.out; clear hE))
      go_wp2_with fail
      go_roundw
      case rel => exact ⟨k1, rfl, hk1le, HX11.out⟩
      case measure => simp only [numOf]; omega
    · have hk2 : decide ((k : Int) < (nl : Int)) = false := by simp; omega
      have HE := hid hE
      clear hk hE
      have HWL0 := HWL
      go_wp2_with fail
      refine (roles_p HOB.out (HWL0.out.trans HE.out)).mono ?_
      rintro r wl2 ⟨adl, cl, bl, rfl, hE, _, hl⟩
      have HOL := hid (HOB.out.ext (Fr.trans (HWL0.out.trans HE.out) hE))
      have HWL := hid (Fr.trans (HWL0.out.trans HE.out) hE)
      obtain ⟨wl, hwl⟩ : ∃ wl, wl = wl2 := ⟨_, rfl⟩
      subst hwl
      obtain ⟨nl, hnl⟩ : ∃ nl, S.roles.length = nl := ⟨_, rfl⟩
      rw [hnl] at hl ⊢
      have hnlb : nl ≤ 64 := by rw [← hnl]; exact roles_length HOL.out.inv1
      have HLL := hid hl
      have HLN := hid hnl
      clear hE hl hnl
      go_wp2_with fail
      clear HO
      have HO := HOL
      have H0 : Hid (UserRel wl nl (.int .i64 ((0 : Nat) : Int)) wl) := hid ⟨0, rfl, Nat.zero_le _, Ext.refl wl⟩
      go_loopw [8] (fun i wr => UserRel wl nl i wr) (fun i _ => nl - numOf i)
      case atStart => exact H0.out
      case round =>
        clear H0
        obtain ⟨k, rfl, hk, hE⟩ := hrel
        by_cases hlt : k < nl
        · obtain ⟨s, hs⟩ : ∃ s, S.roles[k]? = some s := ⟨S.roles[k]'(by rw [HLN.out]; exact hlt), List.getElem?_eq_getElem (by rw [HLN.out]; exact hlt)⟩
          obtain ⟨gu, rfl, hcs⟩ : ∃ g, adl = some ⟨g, 0, none⟩ ∧ ∀ W, Ext wl W → W.cell? ⟨g, k, none⟩ = some (.string s) := by
            obtain ⟨g, hg, hc⟩ := list_cell HLL.out hs
            exact ⟨g, hg, fun W hW => (hW.cell (a := ⟨g, k, none⟩) (World.block_lt_of_cell? wl _ hc) id).trans hc⟩
          have cs := hcs wr hE
          have hk1 : (k : Int) < (nl : Int) := by omega
          have hk2 : decide ((k : Int) < (nl : Int)) = true := by simp; omega
          have hk0 : (0 : Int) ≤ k := by omega
          obtain ⟨k1, hk1'⟩ : ∃ k1, k + 1 = k1 := ⟨_, rfl⟩
          have e1 : (k : Int) + 1 = (k1 : Int) := by omega
          have hk1le : k1 ≤ nl := by omega
          have HE := hid hE
          have HCS := hid hcs
          clear hs hk1' hk hE hcs
          go_wp2_with fail
          go_region_held3 (fun w' => w'.cell? ⟨gu, k, none⟩ = some (.string s)) (assumption) (first | (go_at_call_of 42 p; refine (juniors_p s HO.out (HE.out.drew)).mono ?_; rintro r x1 ⟨ad1, c1, b1, rfl, hE, _, hl⟩; have HX1 := hid (Fr.trans (HE.out.drew) hE); have HL1 := hid hl; have cs := HCS.out x1 HX1.out; clear hE hl) | (go_at_call_of 42 q; refine (juniors_q s HO.out HEQ.out HX1.out).mono ?_; rintro r x2 ⟨ad2, c2, b2, rfl, hE, _, hl⟩; have HX2 := hid (Fr.trans HX1.out hE); have HE2 := hid hE; have HL2 := hid hl; have cs := HCS.out x2 HX2.out; clear hE hl) | (go_at_call_of 57 ad1; refine (texts_same _ b1 b2 c1 c2 _ ad1 ad2 (S.juniors s) rfl (Nat.le_trans (juniors_length HO.out.inv1 s) (by omega)) (ownsRow_ext HL1.out HE2.out) HL2.out).mono ?_; rintro r x3 ⟨rfl, hE⟩; have HX3 := hid (Fr.trans HX2.out hE); have cs := HCS.out x3 HX3.out; clear hE) | (go_at_call_of 23 p; refine (duties_p s HO.out HX3.out hm).mono ?_; rintro r x4 ⟨ad4, c4, b4, rfl, hE, _, hl⟩; have HX4 := hid (Fr.trans HX3.out hE); have HL4 := hid hl; have cs := HCS.out x4 HX4.out; clear hE hl) | (go_at_call_of 23 q; refine (duties_q s HO.out HEQ.out HX4.out hn).mono ?_; rintro r x5 ⟨ad5, c5, b5, rfl, hE, _, hl⟩; have HX5 := hid (Fr.trans HX4.out hE); have HE5 := hid hE; have HL5 := hid hl; have cs := HCS.out x5 HX5.out; clear hE hl) | (go_at_call_of 57 ad4; refine (texts_same _ b4 b5 c4 c5 _ ad4 ad5 (dutiesOf (S.findR s)) rfl (Nat.le_trans (dutiesOf_length S HO.out.inv1 s) (by omega)) (ownsRow_ext HL4.out HE5.out) HL5.out).mono ?_; rintro r x6 ⟨rfl, hE⟩; have HX6 := hid (Fr.trans HX5.out hE); have cs := HCS.out x6 HX6.out; clear hE))
          go_wp2_with fail
          go_roundw
          case rel => exact ⟨k1, rfl, hk1le, HX6.out⟩
          case measure => simp only [numOf]; omega
        · have hk2 : decide ((k : Int) < (nl : Int)) = false := by simp; omega
          have HE := hid hE
          clear hk hE
          go_wp2_with fail
          go_ret
          exact ⟨rfl, HWL.out.trans HE.out⟩
end Go.Proofs.YtnippamifihdpaaGreatDoor
