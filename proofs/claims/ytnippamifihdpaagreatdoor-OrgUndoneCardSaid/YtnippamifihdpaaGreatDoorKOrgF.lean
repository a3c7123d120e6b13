/- org: Lend. org: Tick. -/
import Derived.Test.YtnippamifihdpaaGreatDoorKOrgD
import Derived.Test.YtnippamifihdpaaGreatDoorKOrgE
import Derived.Test.YtnippamifihdpaaGreatDoorKOrgC
import Derived.StillTailTactics
namespace Go.Proofs.YtnippamifihdpaaGreatDoor
open Go Go.RowKit
set_option linter.unusedVariables false

def OrgS.lend (S : OrgS) (a c : ByteArray) (u : Int) : Nat × OrgS :=
  if S.both a c ≠ 0 then (S.both a c, S)
  else if fstU (S.findU a) = fstU (S.findU c) then (1, S) else if u ≤ (S.now : Int) then (1, S) else if 999999999 < u then (1, S)
  else if (getE S.es (S.lid a c)).isSome then (5, S)
  else (0, { S with es := insE ⟨S.lid a c, u, S.turns + 1⟩ S.es, turns := S.turns + 1, ep := S.ep + 1 })
theorem atV_form (es : List Ent) (id : Int) : ∃ z, atV es id = .tuple #[.int .i64 z, .bool (getE es id).isSome] := by
  unfold atV
  cases getE es id with
  | none => exact ⟨_, rfl⟩
  | some e => exact ⟨_, rfl⟩
set_option maxHeartbeats 1000000 in
theorem lend_any {w : World} {own : Own} {p : Nat} {S : OrgS} (a c : ByteArray) (u : Int) (h : OrgAt w own p S) (hep : S.ep < 1000000) (hes : S.es.length ≤ 60000) (htu : S.turns < 4000000000) :
    Calls Tryz.prog 25 #[ptr p, .string a, .string c, .int .i64 u] w fun e w' => e = .returned (.int .i64 (S.lend a c u).1) ∧ OrgPost w own p (S.lend a c u).2 w' := by
  obtain ⟨mU, nU, kU, mR, nR, kR, br, pa, ub, rb, D, g⟩ := h
  have hA : OrgAt w own p S := ⟨mU, nU, kU, mR, nR, kR, br, pa, ub, rb, D, g⟩
  have hm := g.parties a c
  obtain ⟨z, hz⟩ := atV_form S.es (S.lid a c)
  have ext : ∀ {k : Nat}, (Calls Tryz.prog 25 #[ptr p, .string a, .string c, .int .i64 u] w fun e w' => e = .returned (.int .i64 k) ∧ Ext w w') → Calls Tryz.prog 25 #[ptr p, .string a, .string c, .int .i64 u] w fun e w' => e = .returned (.int .i64 k) ∧ OrgPost w own p S w' :=
    fun hc => hc.mono fun e w' k => ⟨k.1, OrgPost.ext hA k.2⟩
  unfold OrgS.lend
  by_cases hb : S.both a c = 0
  · rw [if_neg (by simpa using hb)]
    rw [hb] at hm
    by_cases hft : fstU (S.findU a) = fstU (S.findU c)
    · rw [if_pos hft]
      exact ext (lend_arg1 w p pa _ _ S.turns S.now 0 z u _ a c S.es D _ (g.fst_lt a) (g.fst_lt c) hm g.blk rfl rfl g.ag hz (by rw [hft]; simp))
    · rw [if_neg hft]
      have h1 : ((fstU (S.findU a) : Int) == (fstU (S.findU c) : Int)) = false := by rw [beq_eq_false_iff_ne]; omega
      by_cases hu : u ≤ (S.now : Int)
      · rw [if_pos hu]
        exact ext (lend_arg2 w p pa _ _ S.turns S.now 0 z u _ a c S.es D _ (g.fst_lt a) (g.fst_lt c) hm g.blk rfl rfl g.ag hz h1 (decide_eq_true hu))
      · rw [if_neg hu]
        by_cases hu2 : 999999999 < u
        · rw [if_pos hu2]
          exact ext (lend_arg3 w p pa _ _ S.turns S.now 0 z u _ a c S.es D _ (g.fst_lt a) (g.fst_lt c) hm g.blk rfl rfl g.ag hz h1 (decide_eq_false hu) (decide_eq_true hu2))
        · rw [if_neg hu2]
          cases hg : getE S.es (S.lid a c) with
          | some x =>
            rw [hg] at hz
            exact ext (lend_twice w p pa _ _ S.turns S.now 0 z u true a c S.es D _ (g.fst_lt a) (g.fst_lt c) hm g.blk rfl rfl g.ag hz h1 (decide_eq_false hu) (decide_eq_false hu2))
          | none =>
            have hpD : ¬ D p := fun hq => by have := g.oag p hq; rw [g.op] at this; cases this
            refine (lend_hit w p pa _ _ S.turns S.now S.ep u a c S.es D _ (g.fst_lt a) (g.fst_lt c) hm g.blk rfl rfl rfl hep g.ag hg hes htu hpD h1 (decide_eq_false hu) (decide_eq_false hu2)).mono ?_
            rintro e w' ⟨rfl, w1, wr, D', hE, hAg, hFD, hD', hp', hFp⟩
            refine ⟨rfl, ?_⟩
            have hF : Fr (fun c => D c ∨ c = p) w w' := ((hE.mono fun _ _ => False.elim : Fr (fun c => D c ∨ c = p) w w1).trans' hFD fun _ _ h => .inl h).trans' hFp fun _ _ h => .inr h
            have hp8 : ∀ b, D' b → ¬ b = p := by
              rintro c hc rfl
              rcases hD' c hc with h1 | h1
              · exact hpD h1
              · have := g.blk.lt; omega
            exact g.newAg (now' := S.now) hF (hAg.fr hFp hp8) hD' hp'
  · rw [if_pos hb]
    exact ext (lend_miss w p pa _ _ S.turns S.now _ z u _ a c S.es D _ (g.fst_lt a) (g.fst_lt c) hm g.blk rfl rfl g.ag hz (by simpa using hb))
end Go.Proofs.YtnippamifihdpaaGreatDoor
namespace Go.Proofs.YtnippamifihdpaaGreatDoor
open Go Go.RowKit
set_option linter.unusedVariables false

set_option maxHeartbeats 1000000 in
theorem tick_arg (w : World) (p : Nat) (n : Int) (hn : decide (n < 1) = true) : Calls Tryz.prog 28 #[ptr p, .int .i64 n] w fun e w' => e = .returned (.int .i64 1) ∧ w = w' := by
  go_enter Tryz.func28, Tryz.ntmps28
  go_wp2_with fail
  go_ret
  exact ⟨rfl, rfl⟩
set_option maxHeartbeats 1000000 in
theorem tick_clock (w : World) (p now : Nat) (n : Int) (c10 : w.cell? ⟨p, 10, none⟩ = some (.int .i64 now)) (hnow : now ≤ 999999999) (hn : decide (n < 1) = false) (h2 : decide (999999999 - (now : Int) < n) = true) : Calls Tryz.prog 28 #[ptr p, .int .i64 n] w fun e w' => e = .returned (.int .i64 7) ∧ w = w' := by
  go_enter Tryz.func28, Tryz.ntmps28
  go_wp2_with fail
  go_ret
  exact ⟨rfl, rfl⟩

/-- What is not due yet; how many are due. -/
def restE (es : List Ent) (now : Int) : List Ent := es.filter fun e => decide (now < e.at_)
def dueN (es : List Ent) (now : Int) : Nat := (es.filter fun e => !decide (now < e.at_)).length
theorem agDue_n (pa : Nat) (es : List Ent) (turns : Nat) (now : Int) (D : Nat → Prop) (w : World) (h : Ag w pa es turns D) (hl : es.length ≤ 60000) (g : Nat) (hg : dueN es now = g) :
    Calls Tryz.prog 73 #[ptr pa, .int .i64 now, .int .i64 es.length] w fun r w' => ∃ ad c, r = .returned (.slice ad g c) ∧ ∃ D', Ag w' pa (restE es now) turns D' ∧ Fr D w w' ∧ ∀ b, D' b → D b ∨ w.heap.size ≤ b := by
  refine (agDue_any pa es turns now D w h hl).mono ?_
  rintro r wr ⟨ad, c, gone, es', D', rfl, hes, hgone, hrest, hA, hF, hD⟩
  have e1 : restE es now = es' := by
    unfold restE
    rw [hes, List.filter_append, List.filter_eq_nil_iff.2, List.filter_eq_self.2, List.nil_append]
    · intro e he
      simpa using hrest e he
    · intro e he
      have := hgone e he
      simp
      omega
  have e2 : gone.length = g := by
    rw [← hg]
    unfold dueN
    rw [hes, List.filter_append, List.filter_eq_self.2, List.filter_eq_nil_iff.2, List.append_nil]
    · intro e he
      simpa using hrest e he
    · intro e he
      have := hgone e he
      simp
      omega
  rw [e1, ← e2]
  exact ⟨ad, c, rfl, D', hA, hF, hD⟩

def TickPost (w : World) (p pa n1 turns ep : Nat) (es : List Ent) (D : Nat → Prop) (pcs : Array Value) (e : Ending) (w' : World) : Prop :=
  e = .returned (.int .i64 0) ∧ ∃ D', Ag w' pa (restE es n1) turns D' ∧ (∀ b, D' b → D b ∨ w.heap.size ≤ b) ∧ Blk w' p ((pcs.setIfInBounds 10 (.int .i64 n1)).setIfInBounds 11 (.int .u64 (ep : Int))) 103 ∧ Fr (fun c => D c ∨ c = p) w w'

theorem tick_end {w w2 w4 : World} {p pa n1 turns ep ep' : Nat} {es : List Ent} {D D4 : Nat → Prop} {pcs : Array Value} (hF2 : Fr (fun c => c = p) w w2) (hp2 : Blk w2 p (pcs.setIfInBounds 10 (.int .i64 n1)) 103) (hpD : ¬ D p)
    (hA4 : Ag w4 pa (restE es n1) turns D4) (hF4 : Fr D w2 w4) (hD4 : ∀ b, D4 b → D b ∨ w2.heap.size ≤ b) : TickPost w p pa n1 turns ep' es D pcs (.returned (.int .i64 0)) (w4.setCell ⟨p, 11, none⟩ (.int .u64 (ep' : Int))) := by
  have hp4 := hp2.fr hF4 hpD
  have h4p : ¬ D4 p := fun h => (hD4 p h).elim hpD fun h => by have := hp2.lt; omega
  have F5 : Fr (fun c => c = p) w4 (w4.setCell ⟨p, 11, none⟩ (.int .u64 (ep' : Int))) := (Fr.refl (fun c => c = p) w4).setCell (p := ⟨p, 11, none⟩) (.inl rfl) _
  refine ⟨rfl, D4, hA4.fr F5 (fun b hb e => h4p (e ▸ hb)), fun b hb => (hD4 b hb).imp id fun h => Nat.le_trans hF2.size h, hp4.setCell 11 _, ?_⟩
  exact ((hF2.mono fun b _ e => .inr e : Fr (fun c => D c ∨ c = p) w w2).trans' hF4 fun _ _ h => .inl h).trans' F5 fun _ _ h => .inr h
theorem tick_end0 {w w2 w4 : World} {p pa n1 turns ep : Nat} {es : List Ent} {D D4 : Nat → Prop} {pcs : Array Value} (h11 : pcs[11]? = some (.int .u64 ep)) (hF2 : Fr (fun c => c = p) w w2) (hp2 : Blk w2 p (pcs.setIfInBounds 10 (.int .i64 n1)) 103) (hpD : ¬ D p)
    (hA4 : Ag w4 pa (restE es n1) turns D4) (hF4 : Fr D w2 w4) (hD4 : ∀ b, D4 b → D b ∨ w2.heap.size ≤ b) : TickPost w p pa n1 turns ep es D pcs (.returned (.int .i64 0)) w4 := by
  have hp4 := hp2.fr hF4 hpD
  refine ⟨rfl, D4, hA4, fun b hb => (hD4 b hb).imp id fun h => Nat.le_trans hF2.size h, ?_, ?_⟩
  · rw [set_same (by rw [Array.getElem?_setIfInBounds_ne (by decide)]; exact h11)]
    exact hp4
  · exact ((hF2.mono fun b _ e => .inr e : Fr (fun c => D c ∨ c = p) w w2).trans' hF4 fun _ _ h => .inl h)
set_option maxRecDepth 100000 in
set_option maxHeartbeats 4000000 in
theorem tick_some (w : World) (p pa now n1 turns ep g : Nat) (n : Int) (es : List Ent) (D : Nat → Prop) (pcs : Array Value)
    (hp : Blk w p pcs 103) (h9 : pcs[9]? = some (ptr pa)) (h10 : pcs[10]? = some (.int .i64 now)) (h11 : pcs[11]? = some (.int .u64 ep)) (hep : ep < 1000000) (hag : Ag w pa es turns D) (hes : es.length ≤ 60000) (hpD : ¬ D p)
    (hnow : now ≤ 999999999) (hn : decide (n < 1) = false) (h2 : decide (999999999 - (now : Int) < n) = false) (hb1 : 1 ≤ n) (hb2 : n ≤ 999999999 - (now : Int)) (hn1 : (now : Int) + n = (n1 : Int)) (hg : dueN es n1 = g + 1) :
    Calls Tryz.prog 28 #[ptr p, .int .i64 n] w (TickPost w p pa n1 turns (ep + 1) es D pcs) := by
  have c9 := (hp.cell 9).trans h9
  have c10 := (hp.cell 10).trans h10
  have f10 := hp.frozen 10
  have HP := hid hp
  have H9 := hid h9
  have H11 := hid h11
  have HA := hid hag
  have HG := hid hg
  clear hp h9 h10 h11 hag hg
  go_enter Tryz.func28, Tryz.ntmps28
  go_wp2_with fail
  obtain ⟨w2, hw2⟩ : ∃ w2, w.setCell ⟨p, 10, none⟩ (.int .i64 n1) = w2 := ⟨_, rfl⟩
  rw [hw2]
  have F2 : Fr (fun c => c = p) w w2 := by rw [← hw2]; exact (Fr.refl (fun c => c = p) w).setCell (p := ⟨p, 10, none⟩) (.inl rfl) _
  have hp2 : Blk w2 p (pcs.setIfInBounds 10 (.int .i64 n1)) 103 := by rw [← hw2]; exact HP.out.setCell 10 _
  have hag2 : Ag w2 pa es turns D := HA.out.fr F2 (fun c hc hq => hpD (hq ▸ hc))
  have k9 : w2.cell? ⟨p, 9, none⟩ = some (ptr pa) := (hp2.cell 9).trans (by rw [Array.getElem?_setIfInBounds_ne (by decide)]; exact H9.out)
  have k10 : w2.cell? ⟨p, 10, none⟩ = some (.int .i64 n1) := by rw [← hw2]; exact World.cell?_setCell_same' w ⟨p, 10, none⟩ _ (by rw [c10]; rfl)
  have k11 : w2.cell? ⟨p, 11, none⟩ = some (.int .u64 ep) := (hp2.cell 11).trans (by rw [Array.getElem?_setIfInBounds_ne (by decide)]; exact H11.out)
  have lp2 := hp2.lt
  have HF2 := hid F2
  have HP2 := hid hp2
  have HA2 := hid hag2
  have HK11 := hid k11
  clear hag2 hp2 F2 c9 c10 f10 hw2 k11
  obtain ⟨wd, hwd⟩ : ∃ wd, w2.drew = wd := ⟨_, rfl⟩
  have kd9 : wd.cell? ⟨p, 9, none⟩ = some (ptr pa) := by rw [← hwd]; exact k9
  have kd10 : wd.cell? ⟨p, 10, none⟩ = some (.int .i64 n1) := by rw [← hwd]; exact k10
  have had : Ag wd pa es turns D := by rw [← hwd]; exact HA2.out.fr (S := fun _ => False) ((Fr.refl _ w2).drew) (fun _ _ => id)
  have HAD := hid had
  have Fd : Ext w2 wd := by rw [← hwd]; exact (Fr.refl _ w2).drew
  have HFD := hid Fd
  clear had Fd
  refine wp_region_still_tail 13 (by kernel_rfl) (by kernel_rfl) ?_
  change wpStill _ _ w2.drew (fun a' => wpList _ _ _ _ a' w2.drew) _ _
  rw [hwd]
  clear hwd k9 k10
  simp only [List.take_succ_cons, List.take_zero, List.drop_succ_cons, List.drop_zero]
  iterate 12 still_step
  still_call ((agLen_any pa es turns D wd HAD.out).mono fun e w'' h => ⟨h.1, h.2.symm⟩)
  refine wpStill_nil ?_
  go_wp2_with (go_at_call 73; refine (agDue_n pa es turns (n1 : Int) D wd HAD.out hes (g + 1) HG.out).mono ?_; rintro r w4 ⟨ad, c, rfl, D4, hA4, hF4, hD4⟩; have hF4' : Fr D w2 w4 := (HFD.out.mono fun _ _ => False.elim : Fr D w2 wd).trans hF4; have k11 : w4.cell? ⟨p, 11, none⟩ = some (.int .u64 ep) := (hF4'.cell (a := ⟨p, 11, none⟩) lp2 hpD).trans HK11.out; have kf11 : w4.frozen? ⟨p, 11, none⟩ = false := (HP2.out.fr hF4' hpD).frozen 11; have HA4 := hid hA4; have HF4 := hid hF4'; have HD4 := hid (fun b hb => (hD4 b hb).imp id fun h => Nat.le_trans HFD.out.size h : ∀ b, D4 b → D b ∨ w2.heap.size ≤ b); clear hA4 hF4 hF4' hD4)
  all_goals go_ret
  all_goals rw [show (ep : Int) + 1 = ((ep + 1 : Nat) : Int) from by omega]
  all_goals exact tick_end (ep := ep) HF2.out HP2.out hpD HA4.out HF4.out HD4.out
set_option maxRecDepth 100000 in
set_option maxHeartbeats 4000000 in
theorem tick_none (w : World) (p pa now n1 turns ep g : Nat) (n : Int) (es : List Ent) (D : Nat → Prop) (pcs : Array Value)
    (hp : Blk w p pcs 103) (h9 : pcs[9]? = some (ptr pa)) (h10 : pcs[10]? = some (.int .i64 now)) (h11 : pcs[11]? = some (.int .u64 ep)) (hep : ep < 1000000) (hag : Ag w pa es turns D) (hes : es.length ≤ 60000) (hpD : ¬ D p)
    (hnow : now ≤ 999999999) (hn : decide (n < 1) = false) (h2 : decide (999999999 - (now : Int) < n) = false) (hb1 : 1 ≤ n) (hb2 : n ≤ 999999999 - (now : Int)) (hn1 : (now : Int) + n = (n1 : Int)) (hg : dueN es n1 = 0) :
    Calls Tryz.prog 28 #[ptr p, .int .i64 n] w (TickPost w p pa n1 turns (ep) es D pcs) := by
  have c9 := (hp.cell 9).trans h9
  have c10 := (hp.cell 10).trans h10
  have f10 := hp.frozen 10
  have HP := hid hp
  have H9 := hid h9
  have H11 := hid h11
  have HA := hid hag
  have HG := hid hg
  clear hp h9 h10 h11 hag hg
  go_enter Tryz.func28, Tryz.ntmps28
  go_wp2_with fail
  obtain ⟨w2, hw2⟩ : ∃ w2, w.setCell ⟨p, 10, none⟩ (.int .i64 n1) = w2 := ⟨_, rfl⟩
  rw [hw2]
  have F2 : Fr (fun c => c = p) w w2 := by rw [← hw2]; exact (Fr.refl (fun c => c = p) w).setCell (p := ⟨p, 10, none⟩) (.inl rfl) _
  have hp2 : Blk w2 p (pcs.setIfInBounds 10 (.int .i64 n1)) 103 := by rw [← hw2]; exact HP.out.setCell 10 _
  have hag2 : Ag w2 pa es turns D := HA.out.fr F2 (fun c hc hq => hpD (hq ▸ hc))
  have k9 : w2.cell? ⟨p, 9, none⟩ = some (ptr pa) := (hp2.cell 9).trans (by rw [Array.getElem?_setIfInBounds_ne (by decide)]; exact H9.out)
  have k10 : w2.cell? ⟨p, 10, none⟩ = some (.int .i64 n1) := by rw [← hw2]; exact World.cell?_setCell_same' w ⟨p, 10, none⟩ _ (by rw [c10]; rfl)
  have k11 : w2.cell? ⟨p, 11, none⟩ = some (.int .u64 ep) := (hp2.cell 11).trans (by rw [Array.getElem?_setIfInBounds_ne (by decide)]; exact H11.out)
  have lp2 := hp2.lt
  have HF2 := hid F2
  have HP2 := hid hp2
  have HA2 := hid hag2
  have HK11 := hid k11
  clear hag2 hp2 F2 c9 c10 f10 hw2 k11
  obtain ⟨wd, hwd⟩ : ∃ wd, w2.drew = wd := ⟨_, rfl⟩
  have kd9 : wd.cell? ⟨p, 9, none⟩ = some (ptr pa) := by rw [← hwd]; exact k9
  have kd10 : wd.cell? ⟨p, 10, none⟩ = some (.int .i64 n1) := by rw [← hwd]; exact k10
  have had : Ag wd pa es turns D := by rw [← hwd]; exact HA2.out.fr (S := fun _ => False) ((Fr.refl _ w2).drew) (fun _ _ => id)
  have HAD := hid had
  have Fd : Ext w2 wd := by rw [← hwd]; exact (Fr.refl _ w2).drew
  have HFD := hid Fd
  clear had Fd
  refine wp_region_still_tail 13 (by kernel_rfl) (by kernel_rfl) ?_
  change wpStill _ _ w2.drew (fun a' => wpList _ _ _ _ a' w2.drew) _ _
  rw [hwd]
  clear hwd k9 k10
  simp only [List.take_succ_cons, List.take_zero, List.drop_succ_cons, List.drop_zero]
  iterate 12 still_step
  still_call ((agLen_any pa es turns D wd HAD.out).mono fun e w'' h => ⟨h.1, h.2.symm⟩)
  refine wpStill_nil ?_
  go_wp2_with (go_at_call 73; refine (agDue_n pa es turns (n1 : Int) D wd HAD.out hes (0) HG.out).mono ?_; rintro r w4 ⟨ad, c, rfl, D4, hA4, hF4, hD4⟩; have hF4' : Fr D w2 w4 := (HFD.out.mono fun _ _ => False.elim : Fr D w2 wd).trans hF4; have k11 : w4.cell? ⟨p, 11, none⟩ = some (.int .u64 ep) := (hF4'.cell (a := ⟨p, 11, none⟩) lp2 hpD).trans HK11.out; have kf11 : w4.frozen? ⟨p, 11, none⟩ = false := (HP2.out.fr hF4' hpD).frozen 11; have HA4 := hid hA4; have HF4 := hid hF4'; have HD4 := hid (fun b hb => (hD4 b hb).imp id fun h => Nat.le_trans HFD.out.size h : ∀ b, D4 b → D b ∨ w2.heap.size ≤ b); clear hA4 hF4 hF4' hD4)
  all_goals go_ret
  all_goals exact tick_end0 H11.out HF2.out HP2.out hpD HA4.out HF4.out HD4.out
def OrgS.tick (S : OrgS) (n : Int) : Nat × OrgS :=
  if n < 1 then (1, S) else if 999999999 - (S.now : Int) < n then (7, S)
  else (0, { S with now := S.now + n.toNat, es := restE S.es ((S.now + n.toNat : Nat) : Int), ep := if dueN S.es ((S.now + n.toNat : Nat) : Int) = 0 then S.ep else S.ep + 1 })
theorem tick_any {w : World} {own : Own} {p : Nat} {S : OrgS} (n : Int) (h : OrgAt w own p S) (hep : S.ep < 1000000) (hes : S.es.length ≤ 60000) (hnow : S.now ≤ 999999999) :
    Calls Tryz.prog 28 #[ptr p, .int .i64 n] w fun e w' => e = .returned (.int .i64 (S.tick n).1) ∧ OrgPost w own p (S.tick n).2 w' := by
  obtain ⟨mU, nU, kU, mR, nR, kR, br, pa, ub, rb, D, g⟩ := h
  have hA : OrgAt w own p S := ⟨mU, nU, kU, mR, nR, kR, br, pa, ub, rb, D, g⟩
  unfold OrgS.tick
  by_cases h1 : n < 1
  · rw [if_pos h1]
    refine (tick_arg w p n (decide_eq_true h1)).mono ?_
    rintro e w' ⟨rfl, rfl⟩
    exact ⟨rfl, OrgPost.ext hA (Ext.refl w)⟩
  · rw [if_neg h1]
    by_cases h2 : 999999999 - (S.now : Int) < n
    · rw [if_pos h2]
      refine (tick_clock w p S.now n ((g.blk.cell 10).trans rfl) hnow (decide_eq_false h1) (decide_eq_true h2)).mono ?_
      rintro e w' ⟨rfl, rfl⟩
      exact ⟨rfl, OrgPost.ext hA (Ext.refl w)⟩
    · rw [if_neg h2]
      have hpD : ¬ D p := fun hq => by have := g.oag p hq; rw [g.op] at this; cases this
      have post : ∀ (ep' : Nat) (e : Ending) (w' : World), TickPost w p pa (S.now + n.toNat) S.turns ep' S.es D #[mU, nU, kU, .int .i64 64, mR, nR, kR, .int .i64 64, ptr br, ptr pa, .int .i64 S.now, .int .u64 S.ep] e w' →
          e = .returned (.int .i64 ((0 : Nat) : Int)) ∧ OrgPost w own p { S with now := S.now + n.toNat, es := restE S.es ((S.now + n.toNat : Nat) : Int), ep := ep' } w' := by
        rintro ep' e w' ⟨rfl, D', hA', hD', hp', hF'⟩
        exact ⟨rfl, g.newAg (turns' := S.turns) (now' := S.now + n.toNat) (ep' := ep') hF' hA' hD' hp'⟩
      cases hd : dueN S.es ((S.now + n.toNat : Nat) : Int) with
      | zero =>
        rw [if_pos rfl]
        exact (tick_none w p pa S.now (S.now + n.toNat) S.turns S.ep 0 n S.es D _ g.blk rfl rfl rfl hep g.ag hes hpD hnow (decide_eq_false h1) (decide_eq_false h2) (by omega) (by omega) (by omega) hd).mono fun e w' k => post _ e w' k
      | succ q =>
        rw [if_neg (by omega)]
        exact (tick_some w p pa S.now (S.now + n.toNat) S.turns S.ep q n S.es D _ g.blk rfl rfl rfl hep g.ag hes hpD hnow (decide_eq_false h1) (decide_eq_false h2) (by omega) (by omega) (by omega) hd).mono fun e w' k => post _ e w' k
end Go.Proofs.YtnippamifihdpaaGreatDoor
