/- org: Lend where it is taken. -/
import Derived.Test.YtnippamifihdpaaGreatDoorKOrgC
namespace Go.Proofs.YtnippamifihdpaaGreatDoor
open Go Go.RowKit
set_option linter.unusedVariables false

set_option maxHeartbeats 4000000 in
theorem lend_hit (w : World) (p pa f t turns now ep : Nat) (u : Int) (a c : ByteArray) (es : List Ent) (D : Nat → Prop) (pcs : Array Value) (hf : f < 64) (ht : t < 64)
    (hm : Calls Tryz.prog 69 #[ptr p, .string a, .string c] w fun e w' => e = .returned (.tuple #[.int .i64 (f : Nat), .int .i64 (t : Nat), .int .i64 0]) ∧ Ext w w')
    (hp : Blk w p pcs 103) (h9 : pcs[9]? = some (ptr pa)) (h10 : pcs[10]? = some (.int .i64 now)) (h11 : pcs[11]? = some (.int .u64 ep)) (hep : ep < 1000000) (hag : Ag w pa es turns D) (hnew : getE es ((f * 64 + t : Nat) : Int) = none)
    (hl : es.length ≤ 60000) (htu : turns < 4000000000) (hpD : ¬ D p) (h1 : ((f : Int) == (t : Int)) = false) (h2 : decide (u ≤ (now : Int)) = false) (h3 : decide (999999999 < u) = false) :
    Calls Tryz.prog 25 #[ptr p, .string a, .string c, .int .i64 u] w fun e w' => e = .returned (.int .i64 0) ∧ ∃ w1 wr D', Ext w w1 ∧ Ag wr pa (insE ⟨((f * 64 + t : Nat) : Int), u, turns + 1⟩ es) (turns + 1) D' ∧ Fr D w1 wr ∧ (∀ b, D' b → D b ∨ w.heap.size ≤ b) ∧
      Blk w' p (pcs.setIfInBounds 11 (.int .u64 ((ep + 1 : Nat) : Int))) 103 ∧ Fr (fun c => c = p) wr w' := by
  have d9 : ∀ W, Ext w W → W.cell? ⟨p, 9, none⟩ = some (ptr pa) ∧ W.cell? ⟨p, 10, none⟩ = some (.int .i64 now) := fun W hW => ⟨((hp.ext hW).cell 9).trans h9, ((hp.ext hW).cell 10).trans h10⟩
  have hat : atV es ((f * 64 + t : Nat) : Int) = .tuple #[.int .i64 0, .bool false] := by unfold atV; rw [hnew]
  have HD9 := hid d9
  have HP := hid hp
  have H11 := hid h11
  have HA := hid hag
  have HAT := hid hat
  have HN := hid hnew
  clear d9 hp h9 h10 h11 hag hat hnew
  go_enter Tryz.func25, Tryz.ntmps25
  go_wp2_with (first | (go_at_call 69; refine hm.mono ?_; rintro r w1 ⟨rfl, hE⟩; obtain ⟨d9, d10⟩ := HD9.out w1 hE; have HE := hid hE; clear hE))
  go_region_with (first | (go_at_call 71; refine (loan_any f t _ hf ht).mono ?_; rintro r w3 ⟨rfl, rfl⟩) | (go_at_call 70; refine (agAt_any pa es turns D ((f * 64 + t : Nat) : Int) _ ?_).mono ?_; (exact (HA.out.fr HE.out (fun _ _ => id)).fr (S := fun _ => False) ((Fr.refl _ w1).drew) (fun _ _ => id)); rintro r w4 ⟨rfl, rfl⟩; rw [HAT.out]))
  all_goals go_wp2_with fail
  all_goals go_region_with (first | (go_at_call 71; refine (loan_any f t _ hf ht).mono ?_; rintro r w3 ⟨rfl, rfl⟩) | (go_at_call 72; refine (agSet_any pa es turns D ((f * 64 + t : Nat) : Int) u _ ?_ HN.out hl htu).mono ?_; (exact (HA.out.fr HE.out (fun _ _ => id)).fr (S := fun _ => False) (((Fr.refl _ w1).drew).drew) (fun _ _ => id)); rintro r w6 ⟨rfl, D6, hA6, hF6, hD6⟩; have HA6 := hid hA6; have HF6 := hid hF6; have HD6 := hid hD6; clear hA6 hF6 hD6))
  all_goals go_wp2_with (go_at_call 59; refine (done_ok p ep pcs _ ((HP.out.ext HE.out).fr HF6.out.of_drew.of_drew hpD) H11.out hep).mono ?_; rintro r w7 ⟨rfl, hp7, hF7⟩; have HP7 := hid hp7; have HF7 := hid hF7; clear hp7 hF7)
  all_goals go_ret
  all_goals exact ⟨rfl, w1, w6, D6, HE.out, HA6.out, HF6.out.of_drew.of_drew, fun b hb => (HD6.out b hb).imp id fun h => Nat.le_trans HE.out.size h, HP7.out, HF7.out⟩
end Go.Proofs.YtnippamifihdpaaGreatDoor
