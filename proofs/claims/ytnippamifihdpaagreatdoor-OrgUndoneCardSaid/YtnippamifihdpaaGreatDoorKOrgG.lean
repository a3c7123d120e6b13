/- org: Joined. org: Users, Roles, Joined. org: Bars, Duties. -/
import Derived.Test.YtnippamifihdpaaGreatDoorKOrgC
import Derived.Test.YtnippamifihdpaaGreatDoorKNamesAll
namespace Go.Proofs.YtnippamifihdpaaGreatDoor
open Go Go.RowKit
set_option linter.unusedVariables false

set_option maxHeartbeats 2000000 in
theorem joined_walk (w : World) (p b i r : Nat) (a : ByteArray) (m : Value) (t : Bool) (xs : List ByteArray)
    (hm : Calls Tryz.prog 66 #[ptr p, .string a] w fun e w' => e = .returned (.tuple #[.int .i64 i, ptr b, .int .i64 0]) ∧ Ext w w')
    (hb : Blk w b #[.int .u64 r, m, .bool t] 108)
    (hall : ∀ W, Ext w W → Calls Tryz.prog 67 #[.pointer (some ⟨p, 4, none⟩), .func (.func 65) #[.agg #[.int .u64 (r : Nat)]] #[]] W fun e w' => ∃ l, e = .returned l ∧ NameList W w' l xs) :
    Calls Tryz.prog 22 #[ptr p, .string a] w fun e w' => ∃ l, e = .returned l ∧ NameList w w' l xs := by
  have hs0 : ∀ W, Ext w W → W.cell? ⟨b, 0, none⟩ = some (.int .u64 r) := fun W hW => (hW.cell (a := ⟨b, 0, none⟩) hb.lt id).trans ((hb.cell 0).trans rfl)
  have HS0 := hid hs0
  have HA := hid hall
  clear hs0 hb hall
  go_enter Tryz.func22, Tryz.ntmps22
  go_wp2_with (first | (go_at_call 66; refine hm.mono ?_; rintro q w1 ⟨rfl, hE⟩; have hc0 := HS0.out w1 hE; have HE := hid hE; clear hE))
  go_region_with (first | (go_at_call 64; refine (set_any r _).mono ?_; rintro q w3 ⟨rfl, hE3⟩; have HE3 := hid hE3; clear hE3) | (go_at_call 67; refine (HA.out _ ?_).mono ?_; (exact (HE.out.drew).trans HE3.out); rintro q w4 ⟨l, rfl, hL⟩; have HL := hid hL; clear hL))
  all_goals go_wp2_with fail
  all_goals go_ret
  all_goals exact ⟨_, rfl, HL.out.behind ((HE.out.drew).trans HE3.out)⟩
set_option maxHeartbeats 2000000 in
theorem joined_miss (w : World) (p : Nat) (a : ByteArray) (xs : List ByteArray)
    (hm : Calls Tryz.prog 66 #[ptr p, .string a] w fun e w' => ∃ b, e = .returned (.tuple #[.int .i64 0, ptr b, .int .i64 20]) ∧ Blk w' b #[.int .u64 0, .map none, .bool false] 108 ∧ Ext w w' ∧ w.heap.size ≤ b)
    (hall : ∀ W, Ext w W → Calls Tryz.prog 67 #[.pointer (some ⟨p, 4, none⟩), .func (.func 65) #[.agg #[.int .u64 ((0 : Nat) : Int)]] #[]] W fun e w' => ∃ l, e = .returned l ∧ NameList W w' l xs) :
    Calls Tryz.prog 22 #[ptr p, .string a] w fun e w' => ∃ l, e = .returned l ∧ NameList w w' l xs := by
  have HA := hid hall
  clear hall
  go_enter Tryz.func22, Tryz.ntmps22
  go_wp2_with (first | (go_at_call 66; refine hm.mono ?_; rintro q w1 ⟨b, rfl, hb, hE, hbl⟩; have hc0 := (hb.cell 0).trans rfl; have HE := hid hE; clear hE hb))
  go_region_with (first | (go_at_call 64; refine (set_any 0 _).mono ?_; rintro q w3 ⟨rfl, hE3⟩; have HE3 := hid hE3; clear hE3) | (go_at_call 67; refine (HA.out _ ?_).mono ?_; (exact (HE.out.drew).trans HE3.out); rintro q w4 ⟨l, rfl, hL⟩; have HL := hid hL; clear hL))
  all_goals go_wp2_with fail
  all_goals go_ret
  all_goals exact ⟨_, rfl, HL.out.behind ((HE.out.drew).trans HE3.out)⟩
end Go.Proofs.YtnippamifihdpaaGreatDoor
namespace Go.Proofs.YtnippamifihdpaaGreatDoor
open Go Go.RowKit
set_option linter.unusedVariables false

theorem every_any (i : Nat) (w : World) : Calls Tryz.prog 77 #[.int .i64 i] w fun e w' => e = .returned (.bool true) ∧ Ext w w' := by
  go_enter Tryz.func77, Tryz.ntmps77
  go_wp2_with fail
  go_ret
  exact ⟨rfl, Fr.refl _ _⟩
section
variable {w : World} {own : Own} {p : Nat} {S : OrgS} {mU nU kU mR nR kR : Value} {br pa : Nat} {ub rb : List (Option Nat)} {D : Nat → Prop}
theorem OrgG.allR_has (g : OrgG w own p S mU nU kU mR nR kR br pa ub rb D) (s : Nat) (hs : s < 18446744073709551616) (W : World) (hW : Ext w W) :
    Calls Tryz.prog 67 #[.pointer (some ⟨p, 4, none⟩), .func (.func 65) #[.agg #[.int .u64 (s : Nat)]] #[]] W fun e w' => ∃ l, e = .returned l ∧ NameList W w' l (pickTo S.rn rb (fun i => s.testBit i) rb.length) := by
  have gW := g.ext hW
  refine allHas_any W own p mR nR kR S.rn rb (fun i => s.testBit i) s gW.rr ((gW.blk.cell 5).trans rfl) ((gW.blk.cell 6).trans rfl) fun W2 i hE hi => ?_
  exact has_in s i W2 (Nat.lt_of_lt_of_le hi gW.rr.le) hs
theorem OrgG.users (g : OrgG w own p S mU nU kU mR nR kR br pa ub rb D) :
    Calls Tryz.prog 30 #[ptr p] w fun e w' => ∃ l, e = .returned l ∧ NameList w w' l (pickTo S.un ub (fun _ => true) ub.length) := by
  have ha := allU_any w own p mU nU kU S.un ub (fun _ => true) g.ru ((g.blk.cell 1).trans rfl) ((g.blk.cell 2).trans rfl) fun W2 i hE hi => every_any i W2
  clear g
  go_enter Tryz.func30, Tryz.ntmps30
  go_wp2_with (go_at_call 76; refine ha.mono ?_; rintro q w4 ⟨l, rfl, hL⟩; have HL := hid hL; clear hL)
  go_ret
  exact ⟨_, rfl, HL.out⟩
theorem OrgG.roles (g : OrgG w own p S mU nU kU mR nR kR br pa ub rb D) :
    Calls Tryz.prog 40 #[ptr p] w fun e w' => ∃ l, e = .returned l ∧ NameList w w' l (pickTo S.rn rb (fun _ => true) rb.length) := by
  have ha := allR_any w own p mR nR kR S.rn rb (fun _ => true) g.rr ((g.blk.cell 5).trans rfl) ((g.blk.cell 6).trans rfl) fun W2 i hE hi => every_any i W2
  clear g
  go_enter Tryz.func40, Tryz.ntmps40
  go_wp2_with (go_at_call 67; refine ha.mono ?_; rintro q w4 ⟨l, rfl, hL⟩; have HL := hid hL; clear hL)
  go_ret
  exact ⟨_, rfl, HL.out⟩
end
end Go.Proofs.YtnippamifihdpaaGreatDoor
namespace Go.Proofs.YtnippamifihdpaaGreatDoor
open Go Go.RowKit
set_option linter.unusedVariables false

section
variable {w : World} {own : Own} {p : Nat} {S : OrgS}
def barsOf (x : Option (Nat × UserS)) : List ByteArray := match x with | some (_, u) => sortNames u.bars | none => []
def dutiesOf (x : Option (Nat × List ByteArray)) : List ByteArray := match x with | some (_, u) => sortNames u | none => []
theorem bars_any (a : ByteArray) (h : OrgAt w own p S) (hl : ∀ i u, S.findU a = some (i, u) → u.bars.length ≤ 1000000) : Calls Tryz.prog 27 #[ptr p, .string a] w fun e w' => ∃ l, e = .returned l ∧ NameList w w' l (barsOf (S.findU a)) := by
  obtain ⟨mU, nU, kU, mR, nR, kR, br, pa, ub, rb, D, g⟩ := h
  rcases g.findU a with ⟨i, b, u, h1, h2, hu, _⟩ | ⟨h1, h2⟩
  · have hl2 := hl i u h2
    rw [h2]
    have hm := g.user_hit h1
    obtain ⟨ho, hr, m, hb, hom, hs⟩ := hu
    have hb0 := (hb.cell 1).trans rfl
    have hs0 : ∀ W, Ext w W → W.cell? ⟨b, 1, none⟩ = some (.map (some m)) := fun W hW => (hW.cell (a := ⟨b, 1, none⟩) hb.lt id).trans hb0
    have HS0 := hid hs0
    have HN := hid fun W (hW : Ext w W) => namesAll_any W m u.bars (hs.fr hW id) hl2
    clear hb0 hs0 hb g hs ho hr hom
    go_enter Tryz.func27, Tryz.ntmps27
    go_wp2_with (first | (go_at_call 66; refine hm.mono ?_; rintro r w1 ⟨rfl, hE⟩; have hc0 := HS0.out w1 hE; have HE := hid hE; clear hE) | (go_at_call 68; refine (HN.out _ HE.out).mono ?_; rintro r w2 ⟨l, rfl, hL⟩; have HL := hid hL; clear hL))
    go_ret
    exact ⟨_, rfl, HL.out.behind HE.out⟩
  · rw [h2]
    have hm := g.user_miss h1
    clear g
    go_enter Tryz.func27, Tryz.ntmps27
    go_wp2_with (first | (go_at_call 66; refine hm.mono ?_; rintro r w1 ⟨b, rfl, hb, hE, hbl⟩; have hc0 := (hb.cell 1).trans rfl; have HE := hid hE; clear hE hb) | (go_at_call 68; refine (namesNone_any _).mono ?_; rintro r w2 ⟨rfl, rfl⟩))
    go_ret
    exact ⟨_, rfl, NameList.empty HE.out⟩
theorem duties_any (a : ByteArray) (h : OrgAt w own p S) (hl : ∀ i u, S.findR a = some (i, u) → u.length ≤ 1000000) : Calls Tryz.prog 23 #[ptr p, .string a] w fun e w' => ∃ l, e = .returned l ∧ NameList w w' l (dutiesOf (S.findR a)) := by
  obtain ⟨mU, nU, kU, mR, nR, kR, br, pa, ub, rb, D, g⟩ := h
  rcases g.findR a with ⟨i, b, u, h1, h2, hu, _⟩ | ⟨h1, h2⟩
  · have hl2 := hl i u h2
    rw [h2]
    have hm := g.role_hit h1
    obtain ⟨ho, m, hb, hom, hs⟩ := hu
    have hb0 := (hb.cell 0).trans rfl
    have hs0 : ∀ W, Ext w W → W.cell? ⟨b, 0, none⟩ = some (.map (some m)) := fun W hW => (hW.cell (a := ⟨b, 0, none⟩) hb.lt id).trans hb0
    have HS0 := hid hs0
    have HN := hid fun W (hW : Ext w W) => namesAll_any W m u (hs.fr hW id) hl2
    clear hb0 hs0 hb g hs ho hom
    go_enter Tryz.func23, Tryz.ntmps23
    go_wp2_with (first | (go_at_call 62; refine hm.mono ?_; rintro r w1 ⟨rfl, hE⟩; have hc0 := HS0.out w1 hE; have HE := hid hE; clear hE) | (go_at_call 68; refine (HN.out _ HE.out).mono ?_; rintro r w2 ⟨l, rfl, hL⟩; have HL := hid hL; clear hL))
    go_ret
    exact ⟨_, rfl, HL.out.behind HE.out⟩
  · rw [h2]
    have hm := g.role_miss h1
    clear g
    go_enter Tryz.func23, Tryz.ntmps23
    go_wp2_with (first | (go_at_call 62; refine hm.mono ?_; rintro r w1 ⟨b, rfl, hb, hE, hbl⟩; have hc0 := (hb.cell 0).trans rfl; have HE := hid hE; clear hE hb) | (go_at_call 68; refine (namesNone_any _).mono ?_; rintro r w2 ⟨rfl, rfl⟩))
    go_ret
    exact ⟨_, rfl, NameList.empty HE.out⟩
end
end Go.Proofs.YtnippamifihdpaaGreatDoor
