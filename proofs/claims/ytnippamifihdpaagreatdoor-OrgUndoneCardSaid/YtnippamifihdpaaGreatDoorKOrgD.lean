/- org: Lend's ways that change nothing (printed by gen_lend.py). -/
import Derived.Test.YtnippamifihdpaaGreatDoorKOrgC
namespace Go.Proofs.YtnippamifihdpaaGreatDoor
open Go Go.RowKit
set_option linter.unusedVariables false

set_option maxHeartbeats 4000000 in
theorem lend_miss (w : World) (p pa f t turns now k : Nat) (z u : Int) (is : Bool) (a c : ByteArray) (es : List Ent) (D : Nat → Prop) (pcs : Array Value) (hf : f < 64) (ht : t < 64)
    (hm : Calls Tryz.prog 69 #[ptr p, .string a, .string c] w fun e w' => e = .returned (.tuple #[.int .i64 (f : Nat), .int .i64 (t : Nat), .int .i64 (k : Nat)]) ∧ Ext w w')
    (hp : Blk w p pcs 103) (h9 : pcs[9]? = some (ptr pa)) (h10 : pcs[10]? = some (.int .i64 now)) (hag : Ag w pa es turns D) (hat : atV es ((f * 64 + t : Nat) : Int) = .tuple #[.int .i64 z, .bool is]) (hk : ((k : Int) != 0) = true) :
    Calls Tryz.prog 25 #[ptr p, .string a, .string c, .int .i64 u] w fun e w' => e = .returned (.int .i64 (k : Nat)) ∧ Ext w w' := by
  have d9 : ∀ W, Ext w W → W.cell? ⟨p, 9, none⟩ = some (ptr pa) ∧ W.cell? ⟨p, 10, none⟩ = some (.int .i64 now) := fun W hW => ⟨((hp.ext hW).cell 9).trans h9, ((hp.ext hW).cell 10).trans h10⟩
  have HD9 := hid d9
  have HA := hid hag
  have HAT := hid hat
  clear d9 hp h9 h10 hag hat
  go_enter Tryz.func25, Tryz.ntmps25
  go_wp2_with (first | (go_at_call 69; refine hm.mono ?_; rintro r w1 ⟨rfl, hE⟩; obtain ⟨d9, d10⟩ := HD9.out w1 hE; have HE := hid hE; clear hE))
  go_region_with (first | (go_at_call 71; refine (loan_any f t _ hf ht).mono ?_; rintro r w3 ⟨rfl, rfl⟩) | (go_at_call 70; refine (agAt_any pa es turns D ((f * 64 + t : Nat) : Int) _ ?_).mono ?_; (exact (HA.out.fr HE.out (fun _ _ => id)).fr (S := fun _ => False) ((Fr.refl _ w1).drew) (fun _ _ => id)); rintro r w4 ⟨rfl, rfl⟩; rw [HAT.out]))
  all_goals go_wp2_with fail
  all_goals go_ret
  all_goals exact ⟨rfl, HE.out.drew⟩

set_option maxHeartbeats 4000000 in
theorem lend_arg1 (w : World) (p pa f t turns now k : Nat) (z u : Int) (is : Bool) (a c : ByteArray) (es : List Ent) (D : Nat → Prop) (pcs : Array Value) (hf : f < 64) (ht : t < 64)
    (hm : Calls Tryz.prog 69 #[ptr p, .string a, .string c] w fun e w' => e = .returned (.tuple #[.int .i64 (f : Nat), .int .i64 (t : Nat), .int .i64 0]) ∧ Ext w w')
    (hp : Blk w p pcs 103) (h9 : pcs[9]? = some (ptr pa)) (h10 : pcs[10]? = some (.int .i64 now)) (hag : Ag w pa es turns D) (hat : atV es ((f * 64 + t : Nat) : Int) = .tuple #[.int .i64 z, .bool is]) (h1 : ((f : Int) == (t : Int)) = true) :
    Calls Tryz.prog 25 #[ptr p, .string a, .string c, .int .i64 u] w fun e w' => e = .returned (.int .i64 1) ∧ Ext w w' := by
  have d9 : ∀ W, Ext w W → W.cell? ⟨p, 9, none⟩ = some (ptr pa) ∧ W.cell? ⟨p, 10, none⟩ = some (.int .i64 now) := fun W hW => ⟨((hp.ext hW).cell 9).trans h9, ((hp.ext hW).cell 10).trans h10⟩
  have HD9 := hid d9
  have HA := hid hag
  have HAT := hid hat
  clear d9 hp h9 h10 hag hat
  go_enter Tryz.func25, Tryz.ntmps25
  go_wp2_with (first | (go_at_call 69; refine hm.mono ?_; rintro r w1 ⟨rfl, hE⟩; obtain ⟨d9, d10⟩ := HD9.out w1 hE; have HE := hid hE; clear hE))
  go_region_with (first | (go_at_call 71; refine (loan_any f t _ hf ht).mono ?_; rintro r w3 ⟨rfl, rfl⟩) | (go_at_call 70; refine (agAt_any pa es turns D ((f * 64 + t : Nat) : Int) _ ?_).mono ?_; (exact (HA.out.fr HE.out (fun _ _ => id)).fr (S := fun _ => False) ((Fr.refl _ w1).drew) (fun _ _ => id)); rintro r w4 ⟨rfl, rfl⟩; rw [HAT.out]))
  all_goals go_wp2_with fail
  all_goals go_ret
  all_goals exact ⟨rfl, HE.out.drew⟩

set_option maxHeartbeats 4000000 in
theorem lend_arg2 (w : World) (p pa f t turns now k : Nat) (z u : Int) (is : Bool) (a c : ByteArray) (es : List Ent) (D : Nat → Prop) (pcs : Array Value) (hf : f < 64) (ht : t < 64)
    (hm : Calls Tryz.prog 69 #[ptr p, .string a, .string c] w fun e w' => e = .returned (.tuple #[.int .i64 (f : Nat), .int .i64 (t : Nat), .int .i64 0]) ∧ Ext w w')
    (hp : Blk w p pcs 103) (h9 : pcs[9]? = some (ptr pa)) (h10 : pcs[10]? = some (.int .i64 now)) (hag : Ag w pa es turns D) (hat : atV es ((f * 64 + t : Nat) : Int) = .tuple #[.int .i64 z, .bool is]) (h1 : ((f : Int) == (t : Int)) = false) (h2 : decide (u ≤ (now : Int)) = true) :
    Calls Tryz.prog 25 #[ptr p, .string a, .string c, .int .i64 u] w fun e w' => e = .returned (.int .i64 1) ∧ Ext w w' := by
  have d9 : ∀ W, Ext w W → W.cell? ⟨p, 9, none⟩ = some (ptr pa) ∧ W.cell? ⟨p, 10, none⟩ = some (.int .i64 now) := fun W hW => ⟨((hp.ext hW).cell 9).trans h9, ((hp.ext hW).cell 10).trans h10⟩
  have HD9 := hid d9
  have HA := hid hag
  have HAT := hid hat
  clear d9 hp h9 h10 hag hat
  go_enter Tryz.func25, Tryz.ntmps25
  go_wp2_with (first | (go_at_call 69; refine hm.mono ?_; rintro r w1 ⟨rfl, hE⟩; obtain ⟨d9, d10⟩ := HD9.out w1 hE; have HE := hid hE; clear hE))
  go_region_with (first | (go_at_call 71; refine (loan_any f t _ hf ht).mono ?_; rintro r w3 ⟨rfl, rfl⟩) | (go_at_call 70; refine (agAt_any pa es turns D ((f * 64 + t : Nat) : Int) _ ?_).mono ?_; (exact (HA.out.fr HE.out (fun _ _ => id)).fr (S := fun _ => False) ((Fr.refl _ w1).drew) (fun _ _ => id)); rintro r w4 ⟨rfl, rfl⟩; rw [HAT.out]))
  all_goals go_wp2_with fail
  all_goals go_ret
  all_goals exact ⟨rfl, HE.out.drew⟩

set_option maxHeartbeats 4000000 in
theorem lend_arg3 (w : World) (p pa f t turns now k : Nat) (z u : Int) (is : Bool) (a c : ByteArray) (es : List Ent) (D : Nat → Prop) (pcs : Array Value) (hf : f < 64) (ht : t < 64)
    (hm : Calls Tryz.prog 69 #[ptr p, .string a, .string c] w fun e w' => e = .returned (.tuple #[.int .i64 (f : Nat), .int .i64 (t : Nat), .int .i64 0]) ∧ Ext w w')
    (hp : Blk w p pcs 103) (h9 : pcs[9]? = some (ptr pa)) (h10 : pcs[10]? = some (.int .i64 now)) (hag : Ag w pa es turns D) (hat : atV es ((f * 64 + t : Nat) : Int) = .tuple #[.int .i64 z, .bool is]) (h1 : ((f : Int) == (t : Int)) = false) (h2 : decide (u ≤ (now : Int)) = false) (h3 : decide (999999999 < u) = true) :
    Calls Tryz.prog 25 #[ptr p, .string a, .string c, .int .i64 u] w fun e w' => e = .returned (.int .i64 1) ∧ Ext w w' := by
  have d9 : ∀ W, Ext w W → W.cell? ⟨p, 9, none⟩ = some (ptr pa) ∧ W.cell? ⟨p, 10, none⟩ = some (.int .i64 now) := fun W hW => ⟨((hp.ext hW).cell 9).trans h9, ((hp.ext hW).cell 10).trans h10⟩
  have HD9 := hid d9
  have HA := hid hag
  have HAT := hid hat
  clear d9 hp h9 h10 hag hat
  go_enter Tryz.func25, Tryz.ntmps25
  go_wp2_with (first | (go_at_call 69; refine hm.mono ?_; rintro r w1 ⟨rfl, hE⟩; obtain ⟨d9, d10⟩ := HD9.out w1 hE; have HE := hid hE; clear hE))
  go_region_with (first | (go_at_call 71; refine (loan_any f t _ hf ht).mono ?_; rintro r w3 ⟨rfl, rfl⟩) | (go_at_call 70; refine (agAt_any pa es turns D ((f * 64 + t : Nat) : Int) _ ?_).mono ?_; (exact (HA.out.fr HE.out (fun _ _ => id)).fr (S := fun _ => False) ((Fr.refl _ w1).drew) (fun _ _ => id)); rintro r w4 ⟨rfl, rfl⟩; rw [HAT.out]))
  all_goals go_wp2_with fail
  all_goals go_ret
  all_goals exact ⟨rfl, HE.out.drew⟩

set_option maxHeartbeats 4000000 in
theorem lend_twice (w : World) (p pa f t turns now k : Nat) (z u : Int) (is : Bool) (a c : ByteArray) (es : List Ent) (D : Nat → Prop) (pcs : Array Value) (hf : f < 64) (ht : t < 64)
    (hm : Calls Tryz.prog 69 #[ptr p, .string a, .string c] w fun e w' => e = .returned (.tuple #[.int .i64 (f : Nat), .int .i64 (t : Nat), .int .i64 0]) ∧ Ext w w')
    (hp : Blk w p pcs 103) (h9 : pcs[9]? = some (ptr pa)) (h10 : pcs[10]? = some (.int .i64 now)) (hag : Ag w pa es turns D) (hat : atV es ((f * 64 + t : Nat) : Int) = .tuple #[.int .i64 z, .bool true]) (h1 : ((f : Int) == (t : Int)) = false) (h2 : decide (u ≤ (now : Int)) = false) (h3 : decide (999999999 < u) = false) :
    Calls Tryz.prog 25 #[ptr p, .string a, .string c, .int .i64 u] w fun e w' => e = .returned (.int .i64 5) ∧ Ext w w' := by
  have d9 : ∀ W, Ext w W → W.cell? ⟨p, 9, none⟩ = some (ptr pa) ∧ W.cell? ⟨p, 10, none⟩ = some (.int .i64 now) := fun W hW => ⟨((hp.ext hW).cell 9).trans h9, ((hp.ext hW).cell 10).trans h10⟩
  have HD9 := hid d9
  have HA := hid hag
  have HAT := hid hat
  clear d9 hp h9 h10 hag hat
  go_enter Tryz.func25, Tryz.ntmps25
  go_wp2_with (first | (go_at_call 69; refine hm.mono ?_; rintro r w1 ⟨rfl, hE⟩; obtain ⟨d9, d10⟩ := HD9.out w1 hE; have HE := hid hE; clear hE))
  go_region_with (first | (go_at_call 71; refine (loan_any f t _ hf ht).mono ?_; rintro r w3 ⟨rfl, rfl⟩) | (go_at_call 70; refine (agAt_any pa es turns D ((f * 64 + t : Nat) : Int) _ ?_).mono ?_; (exact (HA.out.fr HE.out (fun _ _ => id)).fr (S := fun _ => False) ((Fr.refl _ w1).drew) (fun _ _ => id)); rintro r w4 ⟨rfl, rfl⟩; rw [HAT.out]))
  all_goals go_wp2_with fail
  all_goals go_ret
  all_goals exact ⟨rfl, HE.out.drew⟩
end Go.Proofs.YtnippamifihdpaaGreatDoor
