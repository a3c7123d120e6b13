/- org: NoUser, NoRole. org: NoUser. -/
import Derived.Test.YtnippamifihdpaaGreatDoorKOrgA
import Derived.Deep.RegionWith
namespace Go.Proofs.YtnippamifihdpaaGreatDoor
open Go Go.RowKit
set_option linter.unusedVariables false

theorem dropE_none {es : List Ent} {id : Int} (h : getE es id = none) : dropE es id = es := by
  unfold dropE
  rw [List.filter_eq_self]
  intro e he
  have : ∀ x ∈ es, x.id ≠ id := by
    intro x hx hq
    unfold getE at h
    rw [List.find?_eq_none] at h
    exact h x hx (by simp [hq])
  simpa using this e he
theorem dropE_length (es : List Ent) (id : Int) : (dropE es id).length ≤ es.length := by
  unfold dropE
  exact List.length_filter_le _ _
/-- Drop, whether the id is there or not. -/
theorem agDrop_any (pa : Nat) (es : List Ent) (turns : Nat) (D : Nat → Prop) (id : Int) (w : World) (h : Ag w pa es turns D) (hl : es.length ≤ 60000) :
    Calls Tryz.prog 75 #[ptr pa, .int .i64 id] w fun r w' => r = .returned (.bool (getE es id).isSome) ∧ ∃ D', Ag w' pa (dropE es id) turns D' ∧ Fr D w w' ∧ ∀ b, D' b → D b ∨ w.heap.size ≤ b := by
  cases hg : getE es id with
  | none =>
    rw [dropE_none hg]
    refine (agDrop_miss pa es turns D id w h hg).mono ?_
    rintro r w' ⟨rfl, rfl⟩
    exact ⟨rfl, D, h, Fr.refl _ _, fun _ => .inl⟩
  | some x => exact agDrop_hit pa es turns D id x w h hg hl

/-- The loans without those of the user i, k users gone through. -/
def goneTo (es : List Ent) (i : Nat) : Nat → List Ent
  | 0 => es
  | k + 1 => dropE (dropE (goneTo es i k) ((i * 64 + k : Nat) : Int)) ((k * 64 + i : Nat) : Int)
theorem goneTo_length (es : List Ent) (i k : Nat) : (goneTo es i k).length ≤ es.length := by
  induction k with
  | zero => exact Nat.le_refl _
  | succ k ih => exact Nat.le_trans (dropE_length _ _) (Nat.le_trans (dropE_length _ _) ih)
def NoRel (w2 : World) (pa i turns : Nat) (es : List Ent) (D : Nat → Prop) (k : Value) (wr : World) : Prop :=
  ∃ (kk : Nat) (D' : Nat → Prop), k = .int .i64 kk ∧ kk ≤ 64 ∧ Ag wr pa (goneTo es i kk) turns D' ∧ Fr D w2 wr ∧ ∀ b, D' b → D b ∨ w2.heap.size ≤ b

theorem no_rel {w2 wr w4 w6 : World} {pa i turns kk k1 : Nat} {es : List Ent} {D D' D4 D6 : Nat → Prop} (hk : kk + 1 = k1) (hk1 : k1 ≤ 64) (hF : Fr D w2 wr) (hD : ∀ b, D' b → D b ∨ w2.heap.size ≤ b)
    (hF4 : Fr D' wr.drew w4) (hD4 : ∀ b, D4 b → D' b ∨ wr.drew.heap.size ≤ b) (hA6 : Ag w6 pa (dropE (dropE (goneTo es i kk) ((i * 64 + kk : Nat) : Int)) ((kk * 64 + i : Nat) : Int)) turns D6) (hF6 : Fr D4 w4.drew w6) (hD6 : ∀ b, D6 b → D4 b ∨ w4.drew.heap.size ≤ b) :
    NoRel w2 pa i turns es D (.int .i64 (k1 : Nat)) w6 := by
  subst hk
  have s1 : w2.heap.size ≤ wr.heap.size := hF.size
  have s2 : wr.heap.size ≤ w4.heap.size := hF4.of_drew.size
  have D4' : ∀ b, D4 b → D b ∨ w2.heap.size ≤ b := fun b hb => (hD4 b hb).elim (hD b) fun h => .inr (Nat.le_trans s1 h)
  refine ⟨kk + 1, D6, rfl, hk1, hA6, ?_, fun b hb => (hD6 b hb).elim (D4' b) fun h => .inr (Nat.le_trans (Nat.le_trans s1 s2) h)⟩
  exact (hF.trans' hF4.of_drew fun b hb h => (hD b h).elim id fun h => by omega).trans' hF6.of_drew fun b hb h => (D4' b h).elim id fun h => by omega

set_option maxRecDepth 100000 in
set_option maxHeartbeats 8000000 in
theorem noUser_hit (w : World) (p b i g cap n pa turns ep : Nat) (a : ByteArray) (es : List Ent) (D : Nat → Prop) (pcs : Array Value) (x : Value) (hi : i < 64) (hin : i < n)
    (hm : Calls Tryz.prog 66 #[ptr p, .string a] w fun e w' => e = .returned (.tuple #[.int .i64 i, ptr b, .int .i64 0]) ∧ Ext w w')
    (hp : Blk w p pcs 103) (h2 : pcs[2]? = some (.slice (some ⟨g, 0, none⟩) n cap)) (h9 : pcs[9]? = some (ptr pa)) (h11 : pcs[11]? = some (.int .u64 ep)) (hep : ep < 1000000)
    (cg : w.cell? ⟨g, i, none⟩ = some x) (fg : w.frozen? ⟨g, i, none⟩ = false) (hag : Ag w pa es turns D) (hes : es.length ≤ 60000) (hpD : ¬ D p) (hgD : ¬ D g) (hgp : g ≠ p) :
    Calls Tryz.prog 82 #[ptr p, .string a] w fun e w' => e = .returned (.int .i64 0) ∧ ∃ w1 wr D', Ext w w1 ∧ Ag wr pa (goneTo es i 64) turns D' ∧ Fr D (w1.setCell ⟨g, i, none⟩ (.pointer none)) wr ∧
      (∀ b, D' b → D b ∨ w.heap.size ≤ b) ∧ Blk w' p (pcs.setIfInBounds 11 (.int .u64 ((ep + 1 : Nat) : Int))) 103 ∧ Fr (fun c => c = p) wr w' := by
  have lg := World.block_lt_of_cell? w _ cg
  have hs : ∀ W, Ext w W → W.cell? ⟨p, 2, none⟩ = some (.slice (some ⟨g, 0, none⟩) n cap) ∧ W.cell? ⟨g, i, none⟩ = some x ∧ W.frozen? ⟨g, i, none⟩ = false := fun W hW =>
    ⟨((hp.ext hW).cell 2).trans h2, (hW.cell (a := ⟨g, i, none⟩) lg id).trans cg, (hW.frozen (a := ⟨g, i, none⟩) lg id).trans fg⟩
  have HS := hid hs
  have HP := hid hp
  have H9 := hid h9
  have H11 := hid h11
  have HA := hid hag
  have hi0 : (0 : Int) ≤ i := by omega
  have hi1 : (i : Int) < n := by omega
  clear hs hp h2 h9 h11 cg fg hag
  go_enter Tryz.func82, Tryz.ntmps82
  go_wp2_with (first | (go_at_call 66; refine hm.mono ?_; rintro r w1 ⟨rfl, hE⟩; obtain ⟨d2, cg, fg⟩ := HS.out w1 hE; have HE := hid hE; clear hE))
  obtain ⟨w2, hw2⟩ : ∃ w2, w1.setCell ⟨g, i, none⟩ (.pointer none) = w2 := ⟨_, rfl⟩
  rw [hw2]
  have F2 : Fr (fun c => c = g) w1 w2 := by rw [← hw2]; exact (Fr.refl (fun c => c = g) w1).setCell (p := ⟨g, i, none⟩) (.inl rfl) _
  have hp2 : Blk w2 p pcs 103 := (HP.out.ext HE.out).fr F2 (Ne.symm hgp)
  have hag2 : Ag w2 pa es turns D := (HA.out.fr HE.out (fun _ _ => id)).fr F2 (fun c hc hq => hgD (hq ▸ hc))
  have hsz2 : w.heap.size ≤ w2.heap.size := Nat.le_trans HE.out.size F2.size
  have H0 : Hid (NoRel w2 pa i turns es D (.int .i64 ((0 : Nat) : Int)) w2) := hid ⟨0, D, rfl, by omega, hag2, Fr.refl _ _, fun _ => .inl⟩
  have HP2 := hid hp2
  have HW2 := hid hw2
  clear hag2 hp2 F2 d2 cg fg hw2
  go_loopw [26] (fun k wr => NoRel w2 pa i turns es D k wr) (fun k _ => 64 - numOf k)
  case atStart => exact H0.out
  case round =>
    clear H0
    obtain ⟨kk, D', rfl, hkk, hA, hF, hD⟩ := hrel
    by_cases hlt : kk < 64
    · have h1 : decide ((kk : Int) < 64) = true := by simp; omega
      obtain ⟨k1, hk1⟩ : ∃ k1, kk + 1 = k1 := ⟨_, rfl⟩
      have e1 : (kk : Int) + 1 = (k1 : Int) := by omega
      have d9 := ((HP2.out.fr hF hpD).cell 9).trans H9.out
      have hes1 : (goneTo es i kk).length ≤ 60000 := Nat.le_trans (goneTo_length _ _ _) hes
      have hes2 : (dropE (goneTo es i kk) ((i * 64 + kk : Nat) : Int)).length ≤ 60000 := Nat.le_trans (dropE_length _ _) hes1
      have hpD' : ¬ D' p := fun h => (hD p h).elim hpD (fun h => by have := HP2.out.lt; omega)
      have lpr : p < wr.heap.size := Nat.lt_of_lt_of_le HP2.out.lt hF.size
      have HAA := hid hA
      have HF := hid hF
      have HD := hid hD
      have HK1 := hid hk1
      clear hA hF hD hk1
      go_wp2_with fail
      go_region_with (first | (go_at_call 71; refine (loan_any i kk _ hi hlt).mono ?_; rintro r w3 ⟨rfl, rfl⟩) | (go_at_call 75; refine (agDrop_any pa (goneTo es i kk) turns D' ((i * 64 + kk : Nat) : Int) _ ?_ hes1).mono ?_; (exact HAA.out.fr (S := fun _ => False) ((Fr.refl _ wr).drew) (fun _ _ => id)); rintro r w4 ⟨rfl, D4, hA4, hF4, hD4⟩; have d9b : w4.cell? ⟨p, 9, none⟩ = some (ptr pa) := (hF4.of_drew.cell (a := ⟨p, 9, none⟩) lpr hpD').trans d9; have HA4 := hid hA4; have HF4 := hid hF4; have HD4 := hid hD4; clear hA4 hF4 hD4))
      all_goals go_wp2_with fail
      all_goals go_region_with (first | (go_at_call 71; refine (loan_any kk i _ hlt hi).mono ?_; rintro r w5 ⟨rfl, rfl⟩) | (go_at_call 75; refine (agDrop_any pa (dropE (goneTo es i kk) ((i * 64 + kk : Nat) : Int)) turns D4 ((kk * 64 + i : Nat) : Int) _ ?_ hes2).mono ?_; (exact HA4.out.fr (S := fun _ => False) ((Fr.refl _ w4).drew) (fun _ _ => id)); rintro r w6 ⟨rfl, D6, hA6, hF6, hD6⟩; have HA6 := hid hA6; have HF6 := hid hF6; have HD6 := hid hD6; clear hA6 hF6 hD6))
      all_goals go_wp2_with fail
      all_goals go_roundw
      all_goals first
        | exact no_rel HK1.out (by omega) HF.out HD.out HF4.out HD4.out HA6.out HF6.out HD6.out
        | (simp only [numOf]; omega)
    · have h1 : decide ((kk : Int) < 64) = false := by simp; omega
      have hke : kk = 64 := by omega
      subst hke
      have HAA := hid hA
      have HF := hid hF
      have HD := hid hD
      have hpr := HP2.out.fr hF hpD
      clear hA hF hD
      go_wp2_with (go_at_call 59; refine (done_ok p ep pcs _ hpr H11.out hep).mono ?_; rintro r w7 ⟨rfl, hp7, hF7⟩; have HP7 := hid hp7; have HF7 := hid hF7; clear hp7 hF7)
      go_ret
      refine ⟨rfl, w1, wr, D', HE.out, HAA.out, ?_, fun c hc => (HD.out c hc).imp id fun h => by omega, HP7.out, HF7.out⟩
      rw [HW2.out]
      exact HF.out

set_option maxHeartbeats 2000000 in
theorem noUser_miss (w : World) (p : Nat) (a : ByteArray)
    (hm : Calls Tryz.prog 66 #[ptr p, .string a] w fun e w' => ∃ b, e = .returned (.tuple #[.int .i64 0, ptr b, .int .i64 20]) ∧ Blk w' b #[.int .u64 0, .map none, .bool false] 108 ∧ Ext w w' ∧ w.heap.size ≤ b) :
    Calls Tryz.prog 82 #[ptr p, .string a] w fun e w' => e = .returned (.int .i64 20) ∧ Ext w w' := by
  go_enter Tryz.func82, Tryz.ntmps82
  go_wp2_with (first | (go_at_call 66; refine hm.mono ?_; rintro r w1 ⟨b, rfl, hb, hE, hbl⟩; have HE := hid hE; clear hE))
  go_ret
  exact ⟨rfl, HE.out⟩
end Go.Proofs.YtnippamifihdpaaGreatDoor
namespace Go.Proofs.YtnippamifihdpaaGreatDoor
open Go Go.RowKit
set_option linter.unusedVariables false

theorem goneTo_zero (es : List Ent) (i : Nat) : goneTo es i 0 = es := rfl
theorem goneTo_succ (es : List Ent) (i k : Nat) : goneTo es i (k + 1) = dropE (dropE (goneTo es i k) ((i * 64 + k : Nat) : Int)) ((k * 64 + i : Nat) : Int) := rfl
attribute [local irreducible] goneTo
/-- The loans without those of a user. -/
@[irreducible] def goneAll (es : List Ent) (i : Nat) : List Ent := goneTo es i 64
theorem goneAll_eq (es : List Ent) (i : Nat) : goneAll es i = goneTo es i 64 := by unfold goneAll; rfl

open Classical in
/-- The footprint behind the agenda has grown. -/
theorem grow_loans {w : World} {own : Own} {D D' : Nat → Prop} (hD : ∀ b, D b → own b = some .loans) (hlt : ∀ c t, own c = some t → c < w.heap.size) (hD' : ∀ b, D' b → D b ∨ w.heap.size ≤ b) :
    ∃ own' : Own, OwnGrow w own own' ∧ (∀ b, D' b → own' b = some .loans) ∧ ∀ c t, own' c = some t → own c = some t ∨ (D' c ∧ t = .loans ∧ w.heap.size ≤ c) := by
  refine ⟨fun c => if D' c then some .loans else own c, ⟨fun c t hc => ?_, fun c t hc => ?_⟩, fun b hb => by simp [hb], fun c t hc => ?_⟩
  · dsimp only
    by_cases h : D' c
    · rw [if_pos h]
      rcases hD' c h with h1 | h1
      · rw [← hD c h1]; exact hc
      · have := hlt c t hc; omega
    · rw [if_neg h]; exact hc
  · dsimp only at hc
    by_cases h : D' c
    · rw [if_pos h] at hc
      rcases hD' c h with h1 | h1
      · exact .inl (by rw [hD c h1]; exact hc)
      · exact .inr h1
    · rw [if_neg h] at hc; exact .inl hc
  · dsimp only at hc
    by_cases h : D' c
    · rw [if_pos h] at hc
      rcases hD' c h with h1 | h1
      · exact .inl (by rw [hD c h1]; exact hc)
      · exact .inr ⟨h, (Option.some.inj hc).symm, h1⟩
    · rw [if_neg h] at hc; exact .inl hc
theorem own_tab {w : World} {own own' : Own} {p : Nat} {S : OrgS} {mU nU kU mR nR kR : Value} {br pa : Nat} {ub rb : List (Option Nat)} {D : Nat → Prop} (h : OrgG w own p S mU nU kU mR nR kR br pa ub rb D) (hG : OwnGrow w own own') : own' 6 = none := by
  cases hq : own' 6 with
  | none => rfl
  | some t =>
    rcases hG.2 _ t hq with h1 | h1
    · rw [h.otab] at h1; cases h1
    · have h2 : 6 < w.heap.size := World.block_lt_of_cell? w ⟨6, 0, none⟩ (h.tab 0 (by decide))
      omega

def OrgS.noUser (S : OrgS) (a : ByteArray) : Nat × OrgS :=
  match S.findU a with
  | some (i, _) => (0, { S with uk := S.uk.set i none, es := goneAll S.es i, ep := S.ep + 1 })
  | none => (20, S)
set_option maxHeartbeats 400000 in
theorem noUser_any {w : World} {own : Own} {p : Nat} {S : OrgS} (a : ByteArray) (h : OrgAt w own p S) (hep : S.ep < 1000000) (hes : S.es.length ≤ 60000) :
    Calls Tryz.prog 82 #[ptr p, .string a] w fun e w' => e = .returned (.int .i64 (S.noUser a).1) ∧ OrgPost w own p (S.noUser a).2 w' := by
  obtain ⟨mU, nU, kU, mR, nR, kR, br, pa, ub, rb, D, g⟩ := h
  have hA : OrgAt w own p S := ⟨mU, nU, kU, mR, nR, kR, br, pa, ub, rb, D, g⟩
  unfold OrgS.noUser
  rcases g.findU a with ⟨i, b, u, h1, h2, hu, hub, huk, hi⟩ | ⟨h1, h2⟩
  · rw [h2]
    dsimp only
    have hx2 : (ub.map kptr)[i]? = some (ptr b) := by rw [List.getElem?_map, hub]; rfl
    obtain ⟨gk, cap, rfl, cg, fg, hgl⟩ := row_cell g.ru.k hx2
    have hin : i < ub.length := (List.getElem?_eq_some_iff.1 hub).1
    have ogk : own gk = some (.known false) := g.ru.kb gk rfl
    have hpD : ¬ D p := fun hq => by have := g.oag p hq; rw [g.op] at this; cases this
    have hgD : ¬ D gk := fun hq => by have := g.oag gk hq; rw [ogk] at this; cases this
    have hgp : gk ≠ p := by rintro rfl; rw [g.op] at ogk; cases ogk
    refine (noUser_hit w p b i gk cap ub.length pa S.turns S.ep a S.es D _ (ptr b) hi hin (g.user_hit h1) g.blk rfl rfl rfl hep cg fg g.ag hes hpD hgD hgp).mono ?_
    rintro e w' ⟨rfl, w1, wr, D', hE, hAg, hFD, hD', hp', hFp⟩
    rw [← goneAll_eq] at hAg
    refine ⟨rfl, ?_⟩
    obtain ⟨own', hG, hDl, hO⟩ := grow_loans g.oag g.lt hD'
    have F1 : Fr (fun c => c = gk) w1 (w1.setCell ⟨gk, i, none⟩ (.pointer none)) := (Fr.refl (fun c => c = gk) w1).setCell (p := ⟨gk, i, none⟩) (.inl rfl) _
    have FX : Fr (fun c => c = gk ∨ D c ∨ c = p) w w' := (((hE.mono fun _ _ => False.elim : Fr (fun c => c = gk ∨ D c ∨ c = p) w w1).trans' F1 fun _ _ h => .inl h).trans' hFD fun _ _ h => .inr (.inl h)).trans' hFp fun _ _ h => .inr (.inr h)
    have hne : ∀ c t, own c = some t → t ≠ .org → t ≠ .known false → t ≠ .loans → ¬ (c = gk ∨ D c ∨ c = p) := by
      rintro c t hc n1 n2 n3 (rfl | hq | rfl)
      · rw [ogk] at hc; injection hc with hc; exact n2 hc.symm
      · rw [g.oag c hq] at hc; injection hc with hc; exact n3 hc.symm
      · rw [g.op] at hc; injection hc with hc; exact n1 hc.symm
    have hnt : ¬ ((6 : Nat) = gk ∨ D 6 ∨ (6 : Nat) = p) := by
      have h0 := g.otab
      rintro (hq | hq | hq)
      · rw [hq, ogk] at h0; cases h0
      · rw [g.oag _ hq] at h0; cases h0
      · rw [hq, g.op] at h0; cases h0
    have hrow : w'.ownsRow 0 109 1 (.slice (some ⟨gk, 0, none⟩) ub.length cap) ub.length ((ub.set i none).map kptr) := by
      rw [List.map_set]
      have r1 := ownsRow_set (ownsRow_ext g.ru.k hE) i (.pointer none)
      have r2 := ownsRow_fr r1 hFD fun c hc hq => hgD (by rw [← show c = gk from Option.some.inj hc]; exact hq)
      exact ownsRow_fr r2 hFp fun c hc hq => hgp ((show c = gk from Option.some.inj hc).symm.trans hq)
    have hsz := hE.size
    have hp8 : ∀ b, D' b → ¬ b = p := by
      rintro c hc rfl
      have := hDl c hc
      rw [hG.1 _ _ g.op] at this
      cases this
    refine ⟨own', ⟨mU, nU, _, mR, nR, kR, br, pa, ub.set i none, rb, D', ⟨hp', hG.1 _ _ g.op, ?_, ?_, ?_, ?_, ?_, hG.1 _ _ g.ork, hAg.fr hFp hp8, hDl, ?_, own_tab g hG, g.tab.fr FX hnt⟩⟩, ?_, hG⟩
    · obtain ⟨m, es, clock, m1, m2, m3, m4⟩ := g.ru.m
      exact ⟨by rw [List.length_set]; exact g.ru.len, g.ru.le, g.ru.nodup, ⟨m, es, clock, m1, hG.1 _ _ m2, FX.obj m3 (hne m _ m2 (by simp) (by simp) (by simp)), m4⟩,
        ownsRow_fr g.ru.n FX fun c hc => hne c _ (g.ru.nb c hc) (by simp) (by simp) (by simp), fun c hc => hG.1 _ _ (g.ru.nb c hc), by rw [List.length_set]; exact hrow, fun c hc => hG.1 _ _ (g.ru.kb c hc)⟩
    · exact (g.rr.fr FX fun c t hc ht => hne c t hc (by rcases ht with rfl | rfl | rfl <;> simp) (by rcases ht with rfl | rfl | rfl <;> simp) (by rcases ht with rfl | rfl | rfl <;> simp)).own_mono hG.1
    · exact g.us.drop fun j c v hj _ hv => hv.fr FX (fun c t hc ht => hne c t hc (by rcases ht with rfl | rfl <;> simp) (by rcases ht with rfl | rfl <;> simp) (by rcases ht with rfl | rfl <;> simp)) hG.1
    · exact g.rs.mono fun j c v _ hv => hv.fr FX (fun c t hc ht => hne c t hc (by rcases ht with rfl | rfl <;> simp) (by rcases ht with rfl | rfl <;> simp) (by rcases ht with rfl | rfl <;> simp)) hG.1
    · exact g.rk.fr FX (hne _ _ g.ork (by simp) (by simp) (by simp))
    · intro c t hc
      rcases hO c t hc with hc | ⟨hc, _, _⟩
      · exact Nat.lt_of_lt_of_le (g.lt c t hc) FX.size
      · exact (hAg.fr hFp hp8).lt hc
    · exact FX.mono (by
        rintro c _ (rfl | hq | rfl)
        · rw [ogk]; simp
        · rw [g.oag c hq]; simp
        · rw [g.op]; simp)
  · rw [h2]
    dsimp only
    exact (noUser_miss w p a (g.user_miss h1)).mono fun e w' k => ⟨k.1, OrgPost.ext hA k.2⟩
end Go.Proofs.YtnippamifihdpaaGreatDoor
