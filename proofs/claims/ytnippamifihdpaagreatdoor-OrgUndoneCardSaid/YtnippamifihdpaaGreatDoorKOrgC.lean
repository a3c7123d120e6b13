/- org: Over, NoOver. org: parties, Back, Lend. org: Back. org: Now, Find, Rests. -/
import Derived.Test.YtnippamifihdpaaGreatDoorKOrgB
namespace Go.Proofs.YtnippamifihdpaaGreatDoor
open Go Go.RowKit
set_option linter.unusedVariables false

theorem spread_lt (J : Nat → Nat) (s : Nat) : spread J s < 18446744073709551616 := by
  unfold spread
  split
  · rename_i h
    exact (Classical.choose_spec h).1
  · decide
theorem OrgG.turnRank {w : World} {own : Own} {p : Nat} {S : OrgS} {mU nU kU mR nR kR : Value} {br pa : Nat} {ub rb : List (Option Nat)} {D : Nat → Prop} (h : OrgG w own p S mU nU kU mR nR kR br pa ub rb D) {w' : World} {J' : Nat → Nat} (hF : Fr (fun c => c = br ∨ c = p) w w')
    (hR : RankAt w' br J') (ep' : Nat) (hp : Blk w' p #[mU, nU, kU, .int .i64 64, mR, nR, kR, .int .i64 64, ptr br, ptr pa, .int .i64 S.now, .int .u64 ep'] 103) :
    OrgG w' own p { S with J := J', ep := ep' } mU nU kU mR nR kR br pa ub rb D := by
  have hne : ∀ c t, own c = some t → t ≠ .org → t ≠ .rank → ¬ (c = br ∨ c = p) := by
    rintro c t hc h1 h2 (rfl | rfl)
    · rw [h.ork] at hc; injection hc with hc; exact h2 hc.symm
    · rw [h.op] at hc; injection hc with hc; exact h1 hc.symm
  exact ⟨hp, h.op, h.ru.fr hF fun c t hc ht => hne c t hc (by rcases ht with rfl | rfl | rfl <;> simp) (by rcases ht with rfl | rfl | rfl <;> simp),
    h.rr.fr hF fun c t hc ht => hne c t hc (by rcases ht with rfl | rfl | rfl <;> simp) (by rcases ht with rfl | rfl | rfl <;> simp),
    h.us.mono fun j c v _ hv => hv.fr hF (fun c t hc ht => hne c t hc (by rcases ht with rfl | rfl <;> simp) (by rcases ht with rfl | rfl <;> simp)) (fun _ _ h => h),
    h.rs.mono fun j c v _ hv => hv.fr hF (fun c t hc ht => hne c t hc (by rcases ht with rfl | rfl <;> simp) (by rcases ht with rfl | rfl <;> simp)) (fun _ _ h => h),
    hR, h.ork, h.ag.fr hF fun c hc => hne _ _ (h.oag c hc) (by simp) (by simp), h.oag,
    fun c t hc => Nat.lt_of_lt_of_le (h.lt c t hc) hF.size, h.otab, h.tab.fr hF (not_tab h h.ork)⟩

noncomputable def OrgS.over (S : OrgS) (a c : ByteArray) : Nat × OrgS :=
  match S.findR a, S.findR c with
  | some (i, _), some (j, _) => ((overJ S.J i j).1, { S with J := (overJ S.J i j).2, ep := bump (overJ S.J i j).1 S.ep })
  | _, _ => (21, S)
def OrgS.noOver (S : OrgS) (a c : ByteArray) : Nat × OrgS :=
  match S.findR a, S.findR c with
  | some (i, _), some (j, _) => ((cutJ S.J i j).1, { S with J := (cutJ S.J i j).2, ep := bump (cutJ S.J i j).1 S.ep })
  | _, _ => (21, S)
set_option maxHeartbeats 4000000 in
theorem linkOver_hit (w : World) (p br i j b d k ep : Nat) (a c : ByteArray) (J' : Nat → Nat) (pcs : Array Value)
    (ha : Calls Tryz.prog 62 #[ptr p, .string a] w fun e w' => e = .returned (.tuple #[.int .i64 i, ptr b, .int .i64 0]) ∧ Ext w w')
    (hc : ∀ W, Ext w W → Calls Tryz.prog 62 #[ptr p, .string c] W fun e w' => e = .returned (.tuple #[.int .i64 j, ptr d, .int .i64 0]) ∧ Ext W w')
    (hov : ∀ W, Ext w W → Calls Tryz.prog 169 #[ptr br, .int .i64 i, .int .i64 j] W fun e w' => e = .returned (.int .i64 k) ∧ RankAt w' br J' ∧ Fr (fun c => c = br) W w')
    (hp : Blk w p pcs 103) (h8 : pcs[8]? = some (ptr br)) (h11 : pcs[11]? = some (.int .u64 ep)) (hep : ep < 1000000) (hpb : p ≠ br) :
    Calls Tryz.prog 85 #[ptr p, .string a, .string c] w fun e w' => e = .returned (.int .i64 k) ∧ (∃ w2, RankAt w2 br J' ∧ Fr (fun c => c = p) w2 w') ∧
      Blk w' p (pcs.setIfInBounds 11 (.int .u64 (bump k ep : Int))) 103 ∧ Fr (fun c => c = br ∨ c = p) w w' := by
  have d8 := (hp.cell 8).trans h8
  have HP := hid hp
  have HH := hid h11
  have HC := hid hc
  have HO := hid hov
  clear hp h8 h11 hc hov
  go_enter Tryz.func85, Tryz.ntmps85
  go_wp2_with (first | (go_at_call 168; go_in) | (go_at_call_of 62 a; refine ha.mono ?_; rintro r w1 ⟨rfl, hE⟩; have HE := hid hE; clear hE) | (go_at_call_of 62 c; refine (HC.out _ HE.out).mono ?_; rintro r w2 ⟨rfl, hE2⟩; have HE2 := hid hE2; clear hE2) | (go_at_call 169; refine (HO.out _ (HE.out.trans HE2.out)).mono ?_; rintro r w3 ⟨rfl, hR, hF3⟩; have HR := hid hR; have HF3 := hid hF3; clear hR hF3) | (go_at_call 59; refine (done_any p ep k pcs _ ((HP.out.ext (HE.out.trans HE2.out)).fr HF3.out hpb) HH.out hep).mono ?_; rintro r w4 ⟨rfl, hp4, hF4⟩; have HP4 := hid hp4; have HF4 := hid hF4; clear hp4 hF4))
  go_ret
  exact ⟨rfl, ⟨w3, HR.out, HF4.out⟩, HP4.out, (((HE.out.trans HE2.out).mono fun _ _ => False.elim : Fr (fun c => c = br ∨ c = p) w w2).trans' HF3.out fun _ _ h => .inl h).trans' HF4.out fun _ _ h => .inr h⟩
set_option maxHeartbeats 4000000 in
theorem linkOver_miss1 (w : World) (p br : Nat) (a c : ByteArray) (d8 : w.cell? ⟨p, 8, none⟩ = some (ptr br))
    (ha : Calls Tryz.prog 62 #[ptr p, .string a] w fun e w' => ∃ b, e = .returned (.tuple #[.int .i64 0, ptr b, .int .i64 21]) ∧ Blk w' b #[.map none] 113 ∧ Ext w w' ∧ w.heap.size ≤ b)
    (hc : ∀ W, Ext w W → Calls Tryz.prog 62 #[ptr p, .string c] W fun e w' => (∃ x y z, e = .returned (.tuple #[x, y, z])) ∧ Ext W w') :
    Calls Tryz.prog 85 #[ptr p, .string a, .string c] w fun e w' => e = .returned (.int .i64 21) ∧ Ext w w' := by
  have HC := hid hc
  clear hc
  go_enter Tryz.func85, Tryz.ntmps85
  go_wp2_with (first | (go_at_call 168; go_in) | (go_at_call_of 62 a; refine ha.mono ?_; rintro r w1 ⟨b, rfl, hb, hE, hbl⟩; have HE := hid hE; clear hE hb) | (go_at_call_of 62 c; refine (HC.out _ HE.out).mono ?_; rintro r w2 ⟨⟨x, y, z, rfl⟩, hE2⟩; have HE2 := hid hE2; clear hE2))
  go_ret
  exact ⟨rfl, HE.out.trans HE2.out⟩
set_option maxHeartbeats 4000000 in
theorem linkOver_miss2 (w : World) (p br i b : Nat) (a c : ByteArray) (d8 : w.cell? ⟨p, 8, none⟩ = some (ptr br))
    (ha : Calls Tryz.prog 62 #[ptr p, .string a] w fun e w' => e = .returned (.tuple #[.int .i64 i, ptr b, .int .i64 0]) ∧ Ext w w')
    (hc : ∀ W, Ext w W → Calls Tryz.prog 62 #[ptr p, .string c] W fun e w' => ∃ b, e = .returned (.tuple #[.int .i64 0, ptr b, .int .i64 21]) ∧ Blk w' b #[.map none] 113 ∧ Ext W w' ∧ W.heap.size ≤ b) :
    Calls Tryz.prog 85 #[ptr p, .string a, .string c] w fun e w' => e = .returned (.int .i64 21) ∧ Ext w w' := by
  have HC := hid hc
  clear hc
  go_enter Tryz.func85, Tryz.ntmps85
  go_wp2_with (first | (go_at_call 168; go_in) | (go_at_call_of 62 a; refine ha.mono ?_; rintro r w1 ⟨rfl, hE⟩; have HE := hid hE; clear hE) | (go_at_call_of 62 c; refine (HC.out _ HE.out).mono ?_; rintro r w2 ⟨b2, rfl, hb, hE2, hbl⟩; have HE2 := hid hE2; clear hE2 hb))
  go_ret
  exact ⟨rfl, HE.out.trans HE2.out⟩
theorem over_any {w : World} {own : Own} {p : Nat} {S : OrgS} (a c : ByteArray) (h : OrgAt w own p S) (hep : S.ep < 1000000) :
    Calls Tryz.prog 85 #[ptr p, .string a, .string c] w fun e w' => e = .returned (.int .i64 (S.over a c).1) ∧ OrgPost w own p (S.over a c).2 w' := by
  obtain ⟨mU, nU, kU, mR, nR, kR, br, pa, ub, rb, D, g⟩ := h
  have hA : OrgAt w own p S := ⟨mU, nU, kU, mR, nR, kR, br, pa, ub, rb, D, g⟩
  have d8 : w.cell? ⟨p, 8, none⟩ = some (ptr br) := (g.blk.cell 8).trans rfl
  unfold OrgS.over
  rcases g.findR a with ⟨i, b, u, h1, h2, hu, hub, huk, hi⟩ | ⟨h1, h2⟩
  · rcases g.findR c with ⟨j, d, r, k1, k2, hr, hrb, hrk, hj⟩ | ⟨k1, k2⟩
    · rw [h2, k2]
      dsimp only
      have hpb : p ≠ br := by
        rintro rfl
        have := g.ork
        rw [g.op] at this
        cases this
      refine (linkOver_hit w p br i j b d (overJ S.J i j).1 S.ep a c (overJ S.J i j).2 _ (g.role_hit h1) (fun W hW => (g.ext hW).role_hit k1) (fun W hW => rankOver_any br i j S.J W (g.ext hW).rk (g.ext hW).tab hi hj (spread_lt _ _)) g.blk rfl rfl hep hpb).mono ?_
      rintro e w' ⟨rfl, ⟨w2, hR2, hF2⟩, hp', hF⟩
      refine ⟨rfl, own, ⟨_, _, _, _, _, _, _, _, _, _, _, g.turnRank hF (hR2.fr hF2 (Ne.symm hpb)) _ hp'⟩, hF.mono ?_, OwnGrow.refl _ _⟩
      rintro c _ (rfl | rfl)
      · rw [g.ork]; simp
      · rw [g.op]; simp
    · rw [h2, k2]
      dsimp only
      exact (linkOver_miss2 w p br i b a c d8 (g.role_hit h1) (fun W hW => (g.ext hW).role_miss k1)).mono fun e w' k => ⟨k.1, OrgPost.ext hA k.2⟩
  · rw [h2]
    dsimp only
    refine (linkOver_miss1 w p br a c d8 (g.role_miss h1) (fun W hW => ?_)).mono fun e w' k => ⟨k.1, OrgPost.ext hA k.2⟩
    rcases (g.ext hW).findR c with ⟨j, d, r, k1, k2, _⟩ | ⟨k1, k2⟩
    · exact ((g.ext hW).role_hit k1).mono fun e w' k => ⟨⟨_, _, _, k.1⟩, k.2⟩
    · refine ((g.ext hW).role_miss k1).mono ?_
      rintro e w' ⟨b, rfl, _, hE, _⟩
      exact ⟨⟨_, _, _, rfl⟩, hE⟩
set_option maxHeartbeats 4000000 in
theorem linkCut_hit (w : World) (p br i j b d k ep : Nat) (a c : ByteArray) (J' : Nat → Nat) (pcs : Array Value)
    (ha : Calls Tryz.prog 62 #[ptr p, .string a] w fun e w' => e = .returned (.tuple #[.int .i64 i, ptr b, .int .i64 0]) ∧ Ext w w')
    (hc : ∀ W, Ext w W → Calls Tryz.prog 62 #[ptr p, .string c] W fun e w' => e = .returned (.tuple #[.int .i64 j, ptr d, .int .i64 0]) ∧ Ext W w')
    (hov : ∀ W, Ext w W → Calls Tryz.prog 170 #[ptr br, .int .i64 i, .int .i64 j] W fun e w' => e = .returned (.int .i64 k) ∧ RankAt w' br J' ∧ Fr (fun c => c = br) W w')
    (hp : Blk w p pcs 103) (h8 : pcs[8]? = some (ptr br)) (h11 : pcs[11]? = some (.int .u64 ep)) (hep : ep < 1000000) (hpb : p ≠ br) :
    Calls Tryz.prog 86 #[ptr p, .string a, .string c] w fun e w' => e = .returned (.int .i64 k) ∧ (∃ w2, RankAt w2 br J' ∧ Fr (fun c => c = p) w2 w') ∧
      Blk w' p (pcs.setIfInBounds 11 (.int .u64 (bump k ep : Int))) 103 ∧ Fr (fun c => c = br ∨ c = p) w w' := by
  have d8 := (hp.cell 8).trans h8
  have HP := hid hp
  have HH := hid h11
  have HC := hid hc
  have HO := hid hov
  clear hp h8 h11 hc hov
  go_enter Tryz.func86, Tryz.ntmps86
  go_wp2_with (first | (go_at_call 168; go_in) | (go_at_call_of 62 a; refine ha.mono ?_; rintro r w1 ⟨rfl, hE⟩; have HE := hid hE; clear hE) | (go_at_call_of 62 c; refine (HC.out _ HE.out).mono ?_; rintro r w2 ⟨rfl, hE2⟩; have HE2 := hid hE2; clear hE2) | (go_at_call 170; refine (HO.out _ (HE.out.trans HE2.out)).mono ?_; rintro r w3 ⟨rfl, hR, hF3⟩; have HR := hid hR; have HF3 := hid hF3; clear hR hF3) | (go_at_call 59; refine (done_any p ep k pcs _ ((HP.out.ext (HE.out.trans HE2.out)).fr HF3.out hpb) HH.out hep).mono ?_; rintro r w4 ⟨rfl, hp4, hF4⟩; have HP4 := hid hp4; have HF4 := hid hF4; clear hp4 hF4))
  go_ret
  exact ⟨rfl, ⟨w3, HR.out, HF4.out⟩, HP4.out, (((HE.out.trans HE2.out).mono fun _ _ => False.elim : Fr (fun c => c = br ∨ c = p) w w2).trans' HF3.out fun _ _ h => .inl h).trans' HF4.out fun _ _ h => .inr h⟩
set_option maxHeartbeats 4000000 in
theorem linkCut_miss1 (w : World) (p br : Nat) (a c : ByteArray) (d8 : w.cell? ⟨p, 8, none⟩ = some (ptr br))
    (ha : Calls Tryz.prog 62 #[ptr p, .string a] w fun e w' => ∃ b, e = .returned (.tuple #[.int .i64 0, ptr b, .int .i64 21]) ∧ Blk w' b #[.map none] 113 ∧ Ext w w' ∧ w.heap.size ≤ b)
    (hc : ∀ W, Ext w W → Calls Tryz.prog 62 #[ptr p, .string c] W fun e w' => (∃ x y z, e = .returned (.tuple #[x, y, z])) ∧ Ext W w') :
    Calls Tryz.prog 86 #[ptr p, .string a, .string c] w fun e w' => e = .returned (.int .i64 21) ∧ Ext w w' := by
  have HC := hid hc
  clear hc
  go_enter Tryz.func86, Tryz.ntmps86
  go_wp2_with (first | (go_at_call 168; go_in) | (go_at_call_of 62 a; refine ha.mono ?_; rintro r w1 ⟨b, rfl, hb, hE, hbl⟩; have HE := hid hE; clear hE hb) | (go_at_call_of 62 c; refine (HC.out _ HE.out).mono ?_; rintro r w2 ⟨⟨x, y, z, rfl⟩, hE2⟩; have HE2 := hid hE2; clear hE2))
  go_ret
  exact ⟨rfl, HE.out.trans HE2.out⟩
set_option maxHeartbeats 4000000 in
theorem linkCut_miss2 (w : World) (p br i b : Nat) (a c : ByteArray) (d8 : w.cell? ⟨p, 8, none⟩ = some (ptr br))
    (ha : Calls Tryz.prog 62 #[ptr p, .string a] w fun e w' => e = .returned (.tuple #[.int .i64 i, ptr b, .int .i64 0]) ∧ Ext w w')
    (hc : ∀ W, Ext w W → Calls Tryz.prog 62 #[ptr p, .string c] W fun e w' => ∃ b, e = .returned (.tuple #[.int .i64 0, ptr b, .int .i64 21]) ∧ Blk w' b #[.map none] 113 ∧ Ext W w' ∧ W.heap.size ≤ b) :
    Calls Tryz.prog 86 #[ptr p, .string a, .string c] w fun e w' => e = .returned (.int .i64 21) ∧ Ext w w' := by
  have HC := hid hc
  clear hc
  go_enter Tryz.func86, Tryz.ntmps86
  go_wp2_with (first | (go_at_call 168; go_in) | (go_at_call_of 62 a; refine ha.mono ?_; rintro r w1 ⟨rfl, hE⟩; have HE := hid hE; clear hE) | (go_at_call_of 62 c; refine (HC.out _ HE.out).mono ?_; rintro r w2 ⟨b2, rfl, hb, hE2, hbl⟩; have HE2 := hid hE2; clear hE2 hb))
  go_ret
  exact ⟨rfl, HE.out.trans HE2.out⟩
theorem noOver_any {w : World} {own : Own} {p : Nat} {S : OrgS} (a c : ByteArray) (h : OrgAt w own p S) (hep : S.ep < 1000000) :
    Calls Tryz.prog 86 #[ptr p, .string a, .string c] w fun e w' => e = .returned (.int .i64 (S.noOver a c).1) ∧ OrgPost w own p (S.noOver a c).2 w' := by
  obtain ⟨mU, nU, kU, mR, nR, kR, br, pa, ub, rb, D, g⟩ := h
  have hA : OrgAt w own p S := ⟨mU, nU, kU, mR, nR, kR, br, pa, ub, rb, D, g⟩
  have d8 : w.cell? ⟨p, 8, none⟩ = some (ptr br) := (g.blk.cell 8).trans rfl
  unfold OrgS.noOver
  rcases g.findR a with ⟨i, b, u, h1, h2, hu, hub, huk, hi⟩ | ⟨h1, h2⟩
  · rcases g.findR c with ⟨j, d, r, k1, k2, hr, hrb, hrk, hj⟩ | ⟨k1, k2⟩
    · rw [h2, k2]
      dsimp only
      have hpb : p ≠ br := by
        rintro rfl
        have := g.ork
        rw [g.op] at this
        cases this
      refine (linkCut_hit w p br i j b d (cutJ S.J i j).1 S.ep a c (cutJ S.J i j).2 _ (g.role_hit h1) (fun W hW => (g.ext hW).role_hit k1) (fun W hW => rankCut_any br i j S.J W (g.ext hW).rk hi hj) g.blk rfl rfl hep hpb).mono ?_
      rintro e w' ⟨rfl, ⟨w2, hR2, hF2⟩, hp', hF⟩
      refine ⟨rfl, own, ⟨_, _, _, _, _, _, _, _, _, _, _, g.turnRank hF (hR2.fr hF2 (Ne.symm hpb)) _ hp'⟩, hF.mono ?_, OwnGrow.refl _ _⟩
      rintro c _ (rfl | rfl)
      · rw [g.ork]; simp
      · rw [g.op]; simp
    · rw [h2, k2]
      dsimp only
      exact (linkCut_miss2 w p br i b a c d8 (g.role_hit h1) (fun W hW => (g.ext hW).role_miss k1)).mono fun e w' k => ⟨k.1, OrgPost.ext hA k.2⟩
  · rw [h2]
    dsimp only
    refine (linkCut_miss1 w p br a c d8 (g.role_miss h1) (fun W hW => ?_)).mono fun e w' k => ⟨k.1, OrgPost.ext hA k.2⟩
    rcases (g.ext hW).findR c with ⟨j, d, r, k1, k2, _⟩ | ⟨k1, k2⟩
    · exact ((g.ext hW).role_hit k1).mono fun e w' k => ⟨⟨_, _, _, k.1⟩, k.2⟩
    · refine ((g.ext hW).role_miss k1).mono ?_
      rintro e w' ⟨b, rfl, _, hE, _⟩
      exact ⟨⟨_, _, _, rfl⟩, hE⟩
end Go.Proofs.YtnippamifihdpaaGreatDoor
namespace Go.Proofs.YtnippamifihdpaaGreatDoor
open Go Go.RowKit
set_option linter.unusedVariables false

def fstU (x : Option (Nat × UserS)) : Nat := match x with | some (i, _) => i | none => 0
def missU (x : Option (Nat × UserS)) : Nat := match x with | some _ => 0 | none => 20
section
variable {w : World} {own : Own} {p : Nat} {S : OrgS} {mU nU kU mR nR kR : Value} {br pa : Nat} {ub rb : List (Option Nat)} {D : Nat → Prop}
theorem OrgG.user_tuple (h : OrgG w own p S mU nU kU mR nR kR br pa ub rb D) (a : ByteArray) :
    Calls Tryz.prog 66 #[ptr p, .string a] w fun e w' => (∃ y, e = .returned (.tuple #[.int .i64 (fstU (S.findU a) : Nat), y, .int .i64 (missU (S.findU a) : Nat)])) ∧ Ext w w' := by
  rcases h.findU a with ⟨i, b, u, h1, h2, _⟩ | ⟨h1, h2⟩
  · rw [h2]
    exact (h.user_hit h1).mono fun e w' k => ⟨⟨_, k.1⟩, k.2⟩
  · rw [h2]
    refine (h.user_miss h1).mono ?_
    rintro e w' ⟨b, rfl, _, hE, _⟩
    exact ⟨⟨_, rfl⟩, hE⟩
theorem OrgG.fst_lt (h : OrgG w own p S mU nU kU mR nR kR br pa ub rb D) (a : ByteArray) : fstU (S.findU a) < 64 := by
  rcases h.findU a with ⟨i, b, u, h1, h2, _, _, _, hi⟩ | ⟨h1, h2⟩
  · rw [h2]; exact hi
  · rw [h2]; decide
end
theorem parties_raw (w : World) (p f t k1 k2 : Nat) (a c : ByteArray)
    (ha : Calls Tryz.prog 66 #[ptr p, .string a] w fun e w' => (∃ y, e = .returned (.tuple #[.int .i64 (f : Nat), y, .int .i64 (k1 : Nat)])) ∧ Ext w w')
    (hc : ∀ W, Ext w W → Calls Tryz.prog 66 #[ptr p, .string c] W fun e w' => (∃ y, e = .returned (.tuple #[.int .i64 (t : Nat), y, .int .i64 (k2 : Nat)])) ∧ Ext W w') :
    Calls Tryz.prog 69 #[ptr p, .string a, .string c] w fun e w' => e = .returned (.tuple #[.int .i64 f, .int .i64 t, .int .i64 ((if k1 = 0 then k2 else k1 : Nat) : Int)]) ∧ Ext w w' := by
  by_cases hk : k1 = 0
  · have h1 : ((k1 : Int) == 0) = true := by subst hk; rfl
    rw [if_pos hk]
    have HC := hid hc
    clear hc hk
    go_enter Tryz.func69, Tryz.ntmps69
    go_wp2_with (first | (go_at_call_of 66 a; refine ha.mono ?_; rintro r w1 ⟨⟨y, rfl⟩, hE⟩; have HE := hid hE; clear hE) | (go_at_call_of 66 c; refine (HC.out _ HE.out).mono ?_; rintro r w2 ⟨⟨y2, rfl⟩, hE2⟩; have HE2 := hid hE2; clear hE2) | go_quiet (fail))
    go_ret3
    exact ⟨rfl, HE.out.trans HE2.out⟩
  · have h1 : ((k1 : Int) == 0) = false := by rw [beq_eq_false_iff_ne]; omega
    rw [if_neg hk]
    have HC := hid hc
    clear hc hk
    go_enter Tryz.func69, Tryz.ntmps69
    go_wp2_with (first | (go_at_call_of 66 a; refine ha.mono ?_; rintro r w1 ⟨⟨y, rfl⟩, hE⟩; have HE := hid hE; clear hE) | (go_at_call_of 66 c; refine (HC.out _ HE.out).mono ?_; rintro r w2 ⟨⟨y2, rfl⟩, hE2⟩; have HE2 := hid hE2; clear hE2) | go_quiet (fail))
    go_ret3
    exact ⟨rfl, HE.out.trans HE2.out⟩
/-- Are both users known? -/
def OrgS.both (S : OrgS) (a c : ByteArray) : Nat := if missU (S.findU a) = 0 then missU (S.findU c) else missU (S.findU a)
theorem OrgG.parties {w : World} {own : Own} {p : Nat} {S : OrgS} {mU nU kU mR nR kR : Value} {br pa : Nat} {ub rb : List (Option Nat)} {D : Nat → Prop} (h : OrgG w own p S mU nU kU mR nR kR br pa ub rb D) (a c : ByteArray) :
    Calls Tryz.prog 69 #[ptr p, .string a, .string c] w fun e w' => e = .returned (.tuple #[.int .i64 (fstU (S.findU a) : Nat), .int .i64 (fstU (S.findU c) : Nat), .int .i64 (S.both a c : Nat)]) ∧ Ext w w' :=
  parties_raw w p _ _ _ _ a c (h.user_tuple a) fun W hW => (h.ext hW).user_tuple c

set_option maxHeartbeats 4000000 in
theorem back_miss (w : World) (p f t k : Nat) (a c : ByteArray) (hk : k ≠ 0)
    (hm : Calls Tryz.prog 69 #[ptr p, .string a, .string c] w fun e w' => e = .returned (.tuple #[.int .i64 (f : Nat), .int .i64 (t : Nat), .int .i64 (k : Nat)]) ∧ Ext w w') :
    Calls Tryz.prog 29 #[ptr p, .string a, .string c] w fun e w' => e = .returned (.int .i64 k) ∧ Ext w w' := by
  have h1 : ((k : Int) != 0) = true := by simpa using hk
  go_enter Tryz.func29, Tryz.ntmps29
  go_wp2_with (first | (go_at_call 69; refine hm.mono ?_; rintro r w1 ⟨rfl, hE⟩; have HE := hid hE; clear hE))
  go_ret
  exact ⟨rfl, HE.out⟩
set_option maxHeartbeats 4000000 in
theorem back_walk (w : World) (p pa f t turns ep : Nat) (a c : ByteArray) (es : List Ent) (D : Nat → Prop) (pcs : Array Value) (hf : f < 64) (ht : t < 64)
    (hm : Calls Tryz.prog 69 #[ptr p, .string a, .string c] w fun e w' => e = .returned (.tuple #[.int .i64 (f : Nat), .int .i64 (t : Nat), .int .i64 0]) ∧ Ext w w')
    (hp : Blk w p pcs 103) (h9 : pcs[9]? = some (ptr pa)) (h11 : pcs[11]? = some (.int .u64 ep)) (hep : ep < 1000000) (hag : Ag w pa es turns D) (hes : es.length ≤ 60000) (hpD : ¬ D p) (k : Nat) (hk : (getE es ((f * 64 + t : Nat) : Int)).isSome = (k == 0)) (hk2 : k = 0 ∨ k = 26) :
    Calls Tryz.prog 29 #[ptr p, .string a, .string c] w fun e w' => e = .returned (.int .i64 k) ∧ ∃ w1 wr D', Ext w w1 ∧ Ag wr pa (dropE es ((f * 64 + t : Nat) : Int)) turns D' ∧ Fr D w1 wr ∧ (∀ b, D' b → D b ∨ w.heap.size ≤ b) ∧
      Blk w' p (pcs.setIfInBounds 11 (.int .u64 (bump k ep : Int))) 103 ∧ Fr (fun c => c = p) wr w' := by
  have d9 : ∀ W, Ext w W → W.cell? ⟨p, 9, none⟩ = some (ptr pa) := fun W hW => ((hp.ext hW).cell 9).trans h9
  have lp := hp.lt
  have HD9 := hid d9
  have HP := hid hp
  have H11 := hid h11
  have HA := hid hag
  clear d9 hp h9 h11 hag
  rcases hk2 with rfl | rfl
  · have HK : Hid ((getE es ((f * 64 + t : Nat) : Int)).isSome = true) := hid hk
    clear hk
    go_enter Tryz.func29, Tryz.ntmps29
    go_wp2_with (first | (go_at_call 69; refine hm.mono ?_; rintro r w1 ⟨rfl, hE⟩; have d9 := HD9.out w1 hE; have HE := hid hE; clear hE))
    go_region_with (first | (go_at_call 71; refine (loan_any f t _ hf ht).mono ?_; rintro r w3 ⟨rfl, rfl⟩) | (go_at_call 75; refine (agDrop_any pa es turns D ((f * 64 + t : Nat) : Int) _ ?_ hes).mono ?_; (exact (HA.out.fr HE.out (fun _ _ => id)).fr (S := fun _ => False) ((Fr.refl _ w1).drew) (fun _ _ => id)); rintro r w4 ⟨rfl, D4, hA4, hF4, hD4⟩; rw [HK.out]; have HA4 := hid hA4; have HF4 := hid hF4; have HD4 := hid hD4; clear hA4 hF4 hD4))
    all_goals go_wp2_with (go_at_call 59; refine (done_ok p ep pcs _ ((HP.out.ext HE.out).fr HF4.out.of_drew hpD) H11.out hep).mono ?_; rintro r w7 ⟨rfl, hp7, hF7⟩; have HP7 := hid hp7; have HF7 := hid hF7; clear hp7 hF7)
    all_goals go_ret
    all_goals exact ⟨rfl, w1, w4, D4, HE.out, HA4.out, HF4.out.of_drew, fun b hb => (HD4.out b hb).imp id fun h => Nat.le_trans HE.out.size h, HP7.out, HF7.out⟩
  · have HK : Hid ((getE es ((f * 64 + t : Nat) : Int)).isSome = false) := hid hk
    clear hk
    go_enter Tryz.func29, Tryz.ntmps29
    go_wp2_with (first | (go_at_call 69; refine hm.mono ?_; rintro r w1 ⟨rfl, hE⟩; have d9 := HD9.out w1 hE; have HE := hid hE; clear hE))
    go_region_with (first | (go_at_call 71; refine (loan_any f t _ hf ht).mono ?_; rintro r w3 ⟨rfl, rfl⟩) | (go_at_call 75; refine (agDrop_any pa es turns D ((f * 64 + t : Nat) : Int) _ ?_ hes).mono ?_; (exact (HA.out.fr HE.out (fun _ _ => id)).fr (S := fun _ => False) ((Fr.refl _ w1).drew) (fun _ _ => id)); rintro r w4 ⟨rfl, D4, hA4, hF4, hD4⟩; rw [HK.out]; have HA4 := hid hA4; have HF4 := hid hF4; have HD4 := hid hD4; clear hA4 hF4 hD4))
    all_goals go_wp2_with fail
    all_goals go_ret
    all_goals exact ⟨rfl, w1, w4, D4, HE.out, HA4.out, HF4.out.of_drew, fun b hb => (HD4.out b hb).imp id fun h => Nat.le_trans HE.out.size h, by show Blk w4 p (pcs.setIfInBounds 11 (.int .u64 (ep : Int))) _; rw [set_same H11.out]; exact (HP.out.ext HE.out).fr HF4.out.of_drew hpD, Fr.refl _ _⟩
end Go.Proofs.YtnippamifihdpaaGreatDoor
namespace Go.Proofs.YtnippamifihdpaaGreatDoor
open Go Go.RowKit
set_option linter.unusedVariables false

/-- The agenda and the org's own block turned. -/
theorem OrgG.newAg {w : World} {own : Own} {p : Nat} {S : OrgS} {mU nU kU mR nR kR : Value} {br pa : Nat} {ub rb : List (Option Nat)} {D : Nat → Prop} (h : OrgG w own p S mU nU kU mR nR kR br pa ub rb D)
    {w' : World} {D' : Nat → Prop} {es' : List Ent} {turns' now' ep' : Nat} (hF : Fr (fun c => D c ∨ c = p) w w') (hA : Ag w' pa es' turns' D') (hD' : ∀ b, D' b → D b ∨ w.heap.size ≤ b)
    (hp : Blk w' p #[mU, nU, kU, .int .i64 64, mR, nR, kR, .int .i64 64, ptr br, ptr pa, .int .i64 now', .int .u64 ep'] 103) :
    OrgPost w own p { S with es := es', turns := turns', now := now', ep := ep' } w' := by
  obtain ⟨own', hG, hDl, hO⟩ := grow_loans h.oag h.lt hD'
  have hne : ∀ c t, own c = some t → t ≠ .org → t ≠ .loans → ¬ (D c ∨ c = p) := by
    rintro c t hc n1 n3 (hq | rfl)
    · rw [h.oag c hq] at hc; injection hc with hc; exact n3 hc.symm
    · rw [h.op] at hc; injection hc with hc; exact n1 hc.symm
  have hnt : ¬ (D 6 ∨ (6 : Nat) = p) := by
    have h0 := h.otab
    rintro (hq | hq)
    · rw [h.oag _ hq] at h0; cases h0
    · rw [hq, h.op] at h0; cases h0
  refine ⟨own', ⟨mU, nU, kU, mR, nR, kR, br, pa, ub, rb, D', ⟨hp, hG.1 _ _ h.op, ?_, ?_, ?_, ?_, ?_, hG.1 _ _ h.ork, hA, hDl, ?_, own_tab h hG, h.tab.fr hF hnt⟩⟩, ?_, hG⟩
  · exact (h.ru.fr hF fun c t hc ht => hne c t hc (by rcases ht with rfl | rfl | rfl <;> simp) (by rcases ht with rfl | rfl | rfl <;> simp)).own_mono hG.1
  · exact (h.rr.fr hF fun c t hc ht => hne c t hc (by rcases ht with rfl | rfl | rfl <;> simp) (by rcases ht with rfl | rfl | rfl <;> simp)).own_mono hG.1
  · exact h.us.mono fun j c v _ hv => hv.fr hF (fun c t hc ht => hne c t hc (by rcases ht with rfl | rfl <;> simp) (by rcases ht with rfl | rfl <;> simp)) hG.1
  · exact h.rs.mono fun j c v _ hv => hv.fr hF (fun c t hc ht => hne c t hc (by rcases ht with rfl | rfl <;> simp) (by rcases ht with rfl | rfl <;> simp)) hG.1
  · exact h.rk.fr hF (hne _ _ h.ork (by simp) (by simp))
  · intro c t hc
    rcases hO c t hc with hc | ⟨hc, _, _⟩
    · exact Nat.lt_of_lt_of_le (h.lt c t hc) hF.size
    · exact hA.lt hc
  · exact hF.mono (by
      rintro c _ (hq | rfl)
      · rw [h.oag c hq]; simp
      · rw [h.op]; simp)

/-- The loan's id. -/
def OrgS.lid (S : OrgS) (a c : ByteArray) : Int := ((fstU (S.findU a) * 64 + fstU (S.findU c) : Nat) : Int)
def OrgS.back (S : OrgS) (a c : ByteArray) : Nat × OrgS :=
  if S.both a c = 0 then ((if (getE S.es (S.lid a c)).isSome then 0 else 26), { S with es := dropE S.es (S.lid a c), ep := bump (if (getE S.es (S.lid a c)).isSome then 0 else 26) S.ep }) else (S.both a c, S)
set_option maxHeartbeats 1000000 in
theorem back_any {w : World} {own : Own} {p : Nat} {S : OrgS} (a c : ByteArray) (h : OrgAt w own p S) (hep : S.ep < 1000000) (hes : S.es.length ≤ 60000) :
    Calls Tryz.prog 29 #[ptr p, .string a, .string c] w fun e w' => e = .returned (.int .i64 (S.back a c).1) ∧ OrgPost w own p (S.back a c).2 w' := by
  obtain ⟨mU, nU, kU, mR, nR, kR, br, pa, ub, rb, D, g⟩ := h
  have hA : OrgAt w own p S := ⟨mU, nU, kU, mR, nR, kR, br, pa, ub, rb, D, g⟩
  have hm := g.parties a c
  unfold OrgS.back
  by_cases hb : S.both a c = 0
  · simp only [if_pos hb]
    rw [hb] at hm
    have hpD : ¬ D p := fun hq => by have := g.oag p hq; rw [g.op] at this; cases this
    obtain ⟨k, hk⟩ : ∃ k : Nat, (if (getE S.es (S.lid a c)).isSome then 0 else 26) = k := ⟨_, rfl⟩
    rw [hk]
    refine (back_walk w p pa _ _ S.turns S.ep a c S.es D _ (g.fst_lt a) (g.fst_lt c) hm g.blk rfl rfl hep g.ag hes hpD k ?_ ?_).mono ?_
    · rw [← hk]
      show (getE S.es (S.lid a c)).isSome = _
      cases (getE S.es (S.lid a c)).isSome <;> rfl
    · rw [← hk]
      cases (getE S.es (S.lid a c)).isSome
      · exact .inr rfl
      · exact .inl rfl
    · rintro e w' ⟨rfl, w1, wr, D', hE, hAg, hFD, hD', hp', hFp⟩
      refine ⟨rfl, ?_⟩
      have hF : Fr (fun c => D c ∨ c = p) w w' := ((hE.mono fun _ _ => False.elim : Fr (fun c => D c ∨ c = p) w w1).trans' hFD fun _ _ h => .inl h).trans' hFp fun _ _ h => .inr h
      have hp8 : ∀ b, D' b → ¬ b = p := by
        rintro c hc rfl
        rcases hD' c hc with h1 | h1
        · exact hpD h1
        · have := g.blk.lt; omega
      exact g.newAg (now' := S.now) hF (hAg.fr hFp hp8) hD' hp'
  · simp only [if_neg hb]
    exact (back_miss w p _ _ _ a c hb hm).mono fun e w' k => ⟨k.1, OrgPost.ext hA k.2⟩
end Go.Proofs.YtnippamifihdpaaGreatDoor
namespace Go.Proofs.YtnippamifihdpaaGreatDoor
open Go Go.RowKit
set_option linter.unusedVariables false

section
variable {w : World} {own : Own} {p : Nat} {S : OrgS}
theorem now_any (h : OrgAt w own p S) : Calls Tryz.prog 24 #[ptr p] w fun e w' => e = .returned (.int .i64 S.now) ∧ w = w' := by
  obtain ⟨mU, nU, kU, mR, nR, kR, br, pa, ub, rb, D, g⟩ := h
  have d := (g.blk.cell 10).trans rfl
  clear g
  go_enter Tryz.func24, Tryz.ntmps24
  go_wp2_with fail
  go_ret
  exact ⟨rfl, rfl⟩
theorem find_any (a : ByteArray) (h : OrgAt w own p S) : Calls Tryz.prog 34 #[ptr p, .string a] w fun e w' => e = .returned (.tuple #[.int .i64 (fstU (S.findU a) : Nat), .bool (S.findU a).isSome]) ∧ Ext w w' := by
  obtain ⟨mU, nU, kU, mR, nR, kR, br, pa, ub, rb, D, g⟩ := h
  have hg := g.getU a
  rcases g.findU a with ⟨i, b, u, h1, h2, _⟩ | ⟨h1, h2⟩
  · rw [h1] at hg
    rw [h2]
    dsimp only [getV, fstU] at hg ⊢
    clear g h1 h2
    go_enter Tryz.func34, Tryz.ntmps34
    go_wp2_with (go_at_call 79; refine hg.mono ?_; rintro r w1 ⟨rfl, hE⟩; have HE := hid hE; clear hE)
    go_ret2
    exact ⟨rfl, HE.out⟩
  · rw [h1] at hg
    rw [h2]
    dsimp only [getV, fstU] at hg ⊢
    clear g h1 h2
    go_enter Tryz.func34, Tryz.ntmps34
    go_wp2_with (go_at_call 79; refine hg.mono ?_; rintro r w1 ⟨rfl, hE⟩; have HE := hid hE; clear hE)
    go_ret2
    exact ⟨rfl, HE.out⟩
def restsOf (x : Option (Nat × UserS)) : Bool := match x with | some (_, u) => u.rests | none => false
theorem rests_any (a : ByteArray) (h : OrgAt w own p S) : Calls Tryz.prog 26 #[ptr p, .string a] w fun e w' => e = .returned (.bool (restsOf (S.findU a))) ∧ Ext w w' := by
  obtain ⟨mU, nU, kU, mR, nR, kR, br, pa, ub, rb, D, g⟩ := h
  rcases g.findU a with ⟨i, b, u, h1, h2, hu, _⟩ | ⟨h1, h2⟩
  · rw [h2]
    have hm := g.user_hit h1
    obtain ⟨m, hb⟩ := userBlk hu
    have hb0 := (hb.cell 2).trans rfl
    have hs0 : ∀ W, Ext w W → W.cell? ⟨b, 2, none⟩ = some (.bool u.rests) := fun W hW => (hW.cell (a := ⟨b, 2, none⟩) hb.lt id).trans hb0
    have HS0 := hid hs0
    clear hb0 hs0 hb g hu
    go_enter Tryz.func26, Tryz.ntmps26
    go_wp2_with (first | (go_at_call 66; refine hm.mono ?_; rintro r w1 ⟨rfl, hE⟩; have hc0 := HS0.out w1 hE; have HE := hid hE; clear hE))
    go_ret
    exact ⟨rfl, HE.out⟩
  · rw [h2]
    have hm := g.user_miss h1
    clear g
    go_enter Tryz.func26, Tryz.ntmps26
    go_wp2_with (first | (go_at_call 66; refine hm.mono ?_; rintro r w1 ⟨b, rfl, hb, hE, hbl⟩; have hc0 := (hb.cell 2).trans rfl; have HE := hid hE; clear hE hb))
    go_ret
    exact ⟨rfl, HE.out⟩
theorem NameList.empty {w w' : World} (h : Ext w w') : NameList w w' (.slice none 0 0) [] := ⟨⟨none, 0, rfl⟩, h, World.ownsRow_nil _ _ _ _⟩
theorem NameList.behind {w w1 w' : World} {l : Value} {xs : List ByteArray} (h : NameList w1 w' l xs) (k : Ext w w1) : NameList w w' l xs := by
  obtain ⟨h1, h2, h3⟩ := h
  refine ⟨h1, k.trans h2, h3.1, ?_⟩
  rcases h3.2 with h4 | ⟨g, cap, cur, q1, q2, q3⟩
  · exact .inl h4
  · exact .inr ⟨g, cap, cur, q1, Nat.le_trans k.size q2, q3⟩
end
end Go.Proofs.YtnippamifihdpaaGreatDoor
