/- law09.does (printed by gen_does.py). law09: in, made. law09: in, made: the walks. -/
import Derived.Test.YtnippamifihdpaaGreatDoorKLawA
import Derived.Test.YtnippamifihdpaaGreatDoorKOrgK
namespace Go.Proofs.YtnippamifihdpaaGreatDoor
open Go Go.RowKit
set_option linter.unusedVariables false

abbrev OpV (on k : Int) (a b : ByteArray) (n : Int) : Value := .agg #[.int .i64 on, .int .i64 k, .string a, .string b, .int .i64 n]
def DoesPost (w : World) (own : Own) (p x y : Nat) (S' : OrgS) (e : Ending) (w' : World) : Prop := e = .returned (.tuple #[.int .i64 x, .int .i64 y]) ∧ OrgPost w own p S' w'
theorem OrgPost.behind {w w1 w' : World} {own : Own} {p : Nat} {S : OrgS} (h : OrgPost w1 own p S w') (k : Ext w w1) : OrgPost w own p S w' := by
  obtain ⟨own', h1, h2, h3, h4⟩ := h
  exact ⟨own', h1, (k.mono fun _ _ => False.elim : Fr (fun c => own c ≠ none) w w1).trans h2, h3, fun c t hc => (h4 c t hc).imp id fun h => Nat.le_trans k.size h⟩

set_option maxHeartbeats 4000000 in
theorem does1 (w : World) (own : Own) (p x y : Nat) (S' : OrgS) (on n : Int) (a b : ByteArray)
    (hcall : ∀ W, Ext w W → Calls Tryz.prog 16 #[ptr p, .string a] W fun e w' => e = .returned (.tuple #[.int .i64 x, .int .i64 y]) ∧ OrgPost W own p S' w') :
    Calls Tryz.prog 37 #[ptr p, OpV on 1 a b n] w (DoesPost w own p x y S') := by
  have HC := hid hcall
  clear hcall
  go_enter Tryz.func37, Tryz.ntmps37
  go_wp2_with (go_at_call 16; refine (HC.out _ ?_).mono ?_; (first | exact (Ext.refl w).alloc _ | exact ((Ext.refl w).alloc _).drew | exact ((Ext.refl w).alloc _).drewN _); rintro r w3 ⟨rfl, hP⟩; have HP := hid hP; clear hP)
  all_goals go_ret2
  all_goals exact ⟨rfl, HP.out.behind (by first | exact (Ext.refl w).alloc _ | exact ((Ext.refl w).alloc _).drew | exact ((Ext.refl w).alloc _).drewN _)⟩
set_option maxHeartbeats 4000000 in
theorem does2 (w : World) (own : Own) (p y : Nat) (S' : OrgS) (on n : Int) (a b : ByteArray)
    (hcall : ∀ W, Ext w W → Calls Tryz.prog 82 #[ptr p, .string a] W fun e w' => e = .returned (.int .i64 y) ∧ OrgPost W own p S' w') :
    Calls Tryz.prog 37 #[ptr p, OpV on 2 a b n] w (DoesPost w own p 0 y S') := by
  have HC := hid hcall
  clear hcall
  go_enter Tryz.func37, Tryz.ntmps37
  go_wp2_with (go_at_call 82; refine (HC.out _ ?_).mono ?_; (first | exact (Ext.refl w).alloc _ | exact ((Ext.refl w).alloc _).drew | exact ((Ext.refl w).alloc _).drewN _); rintro r w3 ⟨rfl, hP⟩; have HP := hid hP; clear hP)
  all_goals go_ret2
  all_goals exact ⟨rfl, HP.out.behind (by first | exact (Ext.refl w).alloc _ | exact ((Ext.refl w).alloc _).drew | exact ((Ext.refl w).alloc _).drewN _)⟩
set_option maxHeartbeats 4000000 in
theorem does3 (w : World) (own : Own) (p x y : Nat) (S' : OrgS) (on n : Int) (a b : ByteArray)
    (hcall : ∀ W, Ext w W → Calls Tryz.prog 17 #[ptr p, .string a] W fun e w' => e = .returned (.tuple #[.int .i64 x, .int .i64 y]) ∧ OrgPost W own p S' w') :
    Calls Tryz.prog 37 #[ptr p, OpV on 3 a b n] w (DoesPost w own p x y S') := by
  have HC := hid hcall
  clear hcall
  go_enter Tryz.func37, Tryz.ntmps37
  go_wp2_with (go_at_call 17; refine (HC.out _ ?_).mono ?_; (first | exact (Ext.refl w).alloc _ | exact ((Ext.refl w).alloc _).drew | exact ((Ext.refl w).alloc _).drewN _); rintro r w3 ⟨rfl, hP⟩; have HP := hid hP; clear hP)
  all_goals go_ret2
  all_goals exact ⟨rfl, HP.out.behind (by first | exact (Ext.refl w).alloc _ | exact ((Ext.refl w).alloc _).drew | exact ((Ext.refl w).alloc _).drewN _)⟩
set_option maxHeartbeats 4000000 in
theorem does4 (w : World) (own : Own) (p y : Nat) (S' : OrgS) (on n : Int) (a b : ByteArray)
    (hcall : ∀ W, Ext w W → Calls Tryz.prog 83 #[ptr p, .string a] W fun e w' => e = .returned (.int .i64 y) ∧ OrgPost W own p S' w') :
    Calls Tryz.prog 37 #[ptr p, OpV on 4 a b n] w (DoesPost w own p 0 y S') := by
  have HC := hid hcall
  clear hcall
  go_enter Tryz.func37, Tryz.ntmps37
  go_wp2_with (go_at_call 83; refine (HC.out _ ?_).mono ?_; (first | exact (Ext.refl w).alloc _ | exact ((Ext.refl w).alloc _).drew | exact ((Ext.refl w).alloc _).drewN _); rintro r w3 ⟨rfl, hP⟩; have HP := hid hP; clear hP)
  all_goals go_ret2
  all_goals exact ⟨rfl, HP.out.behind (by first | exact (Ext.refl w).alloc _ | exact ((Ext.refl w).alloc _).drew | exact ((Ext.refl w).alloc _).drewN _)⟩
set_option maxHeartbeats 4000000 in
theorem does5 (w : World) (own : Own) (p y : Nat) (S' : OrgS) (on n : Int) (a b : ByteArray)
    (hcall : ∀ W, Ext w W → Calls Tryz.prog 18 #[ptr p, .string a, .string b] W fun e w' => e = .returned (.int .i64 y) ∧ OrgPost W own p S' w') :
    Calls Tryz.prog 37 #[ptr p, OpV on 5 a b n] w (DoesPost w own p 0 y S') := by
  have HC := hid hcall
  clear hcall
  go_enter Tryz.func37, Tryz.ntmps37
  go_wp2_with (go_at_call 18; refine (HC.out _ ?_).mono ?_; (first | exact (Ext.refl w).alloc _ | exact ((Ext.refl w).alloc _).drew | exact ((Ext.refl w).alloc _).drewN _); rintro r w3 ⟨rfl, hP⟩; have HP := hid hP; clear hP)
  all_goals go_ret2
  all_goals exact ⟨rfl, HP.out.behind (by first | exact (Ext.refl w).alloc _ | exact ((Ext.refl w).alloc _).drew | exact ((Ext.refl w).alloc _).drewN _)⟩
set_option maxHeartbeats 4000000 in
theorem does6 (w : World) (own : Own) (p y : Nat) (S' : OrgS) (on n : Int) (a b : ByteArray)
    (hcall : ∀ W, Ext w W → Calls Tryz.prog 84 #[ptr p, .string a, .string b] W fun e w' => e = .returned (.int .i64 y) ∧ OrgPost W own p S' w') :
    Calls Tryz.prog 37 #[ptr p, OpV on 6 a b n] w (DoesPost w own p 0 y S') := by
  have HC := hid hcall
  clear hcall
  go_enter Tryz.func37, Tryz.ntmps37
  go_wp2_with (go_at_call 84; refine (HC.out _ ?_).mono ?_; (first | exact (Ext.refl w).alloc _ | exact ((Ext.refl w).alloc _).drew | exact ((Ext.refl w).alloc _).drewN _); rintro r w3 ⟨rfl, hP⟩; have HP := hid hP; clear hP)
  all_goals go_ret2
  all_goals exact ⟨rfl, HP.out.behind (by first | exact (Ext.refl w).alloc _ | exact ((Ext.refl w).alloc _).drew | exact ((Ext.refl w).alloc _).drewN _)⟩
set_option maxHeartbeats 4000000 in
theorem does7 (w : World) (own : Own) (p y : Nat) (S' : OrgS) (on n : Int) (a b : ByteArray)
    (hcall : ∀ W, Ext w W → Calls Tryz.prog 85 #[ptr p, .string a, .string b] W fun e w' => e = .returned (.int .i64 y) ∧ OrgPost W own p S' w') :
    Calls Tryz.prog 37 #[ptr p, OpV on 7 a b n] w (DoesPost w own p 0 y S') := by
  have HC := hid hcall
  clear hcall
  go_enter Tryz.func37, Tryz.ntmps37
  go_wp2_with (go_at_call 85; refine (HC.out _ ?_).mono ?_; (first | exact (Ext.refl w).alloc _ | exact ((Ext.refl w).alloc _).drew | exact ((Ext.refl w).alloc _).drewN _); rintro r w3 ⟨rfl, hP⟩; have HP := hid hP; clear hP)
  all_goals go_ret2
  all_goals exact ⟨rfl, HP.out.behind (by first | exact (Ext.refl w).alloc _ | exact ((Ext.refl w).alloc _).drew | exact ((Ext.refl w).alloc _).drewN _)⟩
set_option maxHeartbeats 4000000 in
theorem does8 (w : World) (own : Own) (p y : Nat) (S' : OrgS) (on n : Int) (a b : ByteArray)
    (hcall : ∀ W, Ext w W → Calls Tryz.prog 86 #[ptr p, .string a, .string b] W fun e w' => e = .returned (.int .i64 y) ∧ OrgPost W own p S' w') :
    Calls Tryz.prog 37 #[ptr p, OpV on 8 a b n] w (DoesPost w own p 0 y S') := by
  have HC := hid hcall
  clear hcall
  go_enter Tryz.func37, Tryz.ntmps37
  go_wp2_with (go_at_call 86; refine (HC.out _ ?_).mono ?_; (first | exact (Ext.refl w).alloc _ | exact ((Ext.refl w).alloc _).drew | exact ((Ext.refl w).alloc _).drewN _); rintro r w3 ⟨rfl, hP⟩; have HP := hid hP; clear hP)
  all_goals go_ret2
  all_goals exact ⟨rfl, HP.out.behind (by first | exact (Ext.refl w).alloc _ | exact ((Ext.refl w).alloc _).drew | exact ((Ext.refl w).alloc _).drewN _)⟩
set_option maxHeartbeats 4000000 in
theorem does9 (w : World) (own : Own) (p y : Nat) (S' : OrgS) (on n : Int) (a b : ByteArray)
    (hcall : ∀ W, Ext w W → Calls Tryz.prog 19 #[ptr p, .string a, .string b] W fun e w' => e = .returned (.int .i64 y) ∧ OrgPost W own p S' w') :
    Calls Tryz.prog 37 #[ptr p, OpV on 9 a b n] w (DoesPost w own p 0 y S') := by
  have HC := hid hcall
  clear hcall
  go_enter Tryz.func37, Tryz.ntmps37
  go_wp2_with (go_at_call 19; refine (HC.out _ ?_).mono ?_; (first | exact (Ext.refl w).alloc _ | exact ((Ext.refl w).alloc _).drew | exact ((Ext.refl w).alloc _).drewN _); rintro r w3 ⟨rfl, hP⟩; have HP := hid hP; clear hP)
  all_goals go_ret2
  all_goals exact ⟨rfl, HP.out.behind (by first | exact (Ext.refl w).alloc _ | exact ((Ext.refl w).alloc _).drew | exact ((Ext.refl w).alloc _).drewN _)⟩
set_option maxHeartbeats 4000000 in
theorem does10 (w : World) (own : Own) (p y : Nat) (S' : OrgS) (on n : Int) (a b : ByteArray)
    (hcall : ∀ W, Ext w W → Calls Tryz.prog 87 #[ptr p, .string a, .string b] W fun e w' => e = .returned (.int .i64 y) ∧ OrgPost W own p S' w') :
    Calls Tryz.prog 37 #[ptr p, OpV on 10 a b n] w (DoesPost w own p 0 y S') := by
  have HC := hid hcall
  clear hcall
  go_enter Tryz.func37, Tryz.ntmps37
  go_wp2_with (go_at_call 87; refine (HC.out _ ?_).mono ?_; (first | exact (Ext.refl w).alloc _ | exact ((Ext.refl w).alloc _).drew | exact ((Ext.refl w).alloc _).drewN _); rintro r w3 ⟨rfl, hP⟩; have HP := hid hP; clear hP)
  all_goals go_ret2
  all_goals exact ⟨rfl, HP.out.behind (by first | exact (Ext.refl w).alloc _ | exact ((Ext.refl w).alloc _).drew | exact ((Ext.refl w).alloc _).drewN _)⟩
set_option maxHeartbeats 4000000 in
theorem does11 (w : World) (own : Own) (p y : Nat) (S' : OrgS) (on n : Int) (a b : ByteArray)
    (hcall : ∀ W, Ext w W → Calls Tryz.prog 88 #[ptr p, .string a, .string b] W fun e w' => e = .returned (.int .i64 y) ∧ OrgPost W own p S' w') :
    Calls Tryz.prog 37 #[ptr p, OpV on 11 a b n] w (DoesPost w own p 0 y S') := by
  have HC := hid hcall
  clear hcall
  go_enter Tryz.func37, Tryz.ntmps37
  go_wp2_with (go_at_call 88; refine (HC.out _ ?_).mono ?_; (first | exact (Ext.refl w).alloc _ | exact ((Ext.refl w).alloc _).drew | exact ((Ext.refl w).alloc _).drewN _); rintro r w3 ⟨rfl, hP⟩; have HP := hid hP; clear hP)
  all_goals go_ret2
  all_goals exact ⟨rfl, HP.out.behind (by first | exact (Ext.refl w).alloc _ | exact ((Ext.refl w).alloc _).drew | exact ((Ext.refl w).alloc _).drewN _)⟩
set_option maxHeartbeats 4000000 in
theorem does12 (w : World) (own : Own) (p y : Nat) (S' : OrgS) (on n : Int) (a b : ByteArray)
    (hcall : ∀ W, Ext w W → Calls Tryz.prog 89 #[ptr p, .string a, .string b] W fun e w' => e = .returned (.int .i64 y) ∧ OrgPost W own p S' w') :
    Calls Tryz.prog 37 #[ptr p, OpV on 12 a b n] w (DoesPost w own p 0 y S') := by
  have HC := hid hcall
  clear hcall
  go_enter Tryz.func37, Tryz.ntmps37
  go_wp2_with (go_at_call 89; refine (HC.out _ ?_).mono ?_; (first | exact (Ext.refl w).alloc _ | exact ((Ext.refl w).alloc _).drew | exact ((Ext.refl w).alloc _).drewN _); rintro r w3 ⟨rfl, hP⟩; have HP := hid hP; clear hP)
  all_goals go_ret2
  all_goals exact ⟨rfl, HP.out.behind (by first | exact (Ext.refl w).alloc _ | exact ((Ext.refl w).alloc _).drew | exact ((Ext.refl w).alloc _).drewN _)⟩
set_option maxHeartbeats 4000000 in
theorem does13 (w : World) (own : Own) (p y : Nat) (S' : OrgS) (on n : Int) (a b : ByteArray)
    (hcall : ∀ W, Ext w W → Calls Tryz.prog 25 #[ptr p, .string a, .string b, .int .i64 n] W fun e w' => e = .returned (.int .i64 y) ∧ OrgPost W own p S' w') :
    Calls Tryz.prog 37 #[ptr p, OpV on 13 a b n] w (DoesPost w own p 0 y S') := by
  have HC := hid hcall
  clear hcall
  go_enter Tryz.func37, Tryz.ntmps37
  go_wp2_with (go_at_call 25; refine (HC.out _ ?_).mono ?_; (first | exact (Ext.refl w).alloc _ | exact ((Ext.refl w).alloc _).drew | exact ((Ext.refl w).alloc _).drewN _); rintro r w3 ⟨rfl, hP⟩; have HP := hid hP; clear hP)
  all_goals go_ret2
  all_goals exact ⟨rfl, HP.out.behind (by first | exact (Ext.refl w).alloc _ | exact ((Ext.refl w).alloc _).drew | exact ((Ext.refl w).alloc _).drewN _)⟩
set_option maxHeartbeats 4000000 in
theorem does14 (w : World) (own : Own) (p y : Nat) (S' : OrgS) (on n : Int) (a b : ByteArray)
    (hcall : ∀ W, Ext w W → Calls Tryz.prog 29 #[ptr p, .string a, .string b] W fun e w' => e = .returned (.int .i64 y) ∧ OrgPost W own p S' w') :
    Calls Tryz.prog 37 #[ptr p, OpV on 14 a b n] w (DoesPost w own p 0 y S') := by
  have HC := hid hcall
  clear hcall
  go_enter Tryz.func37, Tryz.ntmps37
  go_wp2_with (go_at_call 29; refine (HC.out _ ?_).mono ?_; (first | exact (Ext.refl w).alloc _ | exact ((Ext.refl w).alloc _).drew | exact ((Ext.refl w).alloc _).drewN _); rintro r w3 ⟨rfl, hP⟩; have HP := hid hP; clear hP)
  all_goals go_ret2
  all_goals exact ⟨rfl, HP.out.behind (by first | exact (Ext.refl w).alloc _ | exact ((Ext.refl w).alloc _).drew | exact ((Ext.refl w).alloc _).drewN _)⟩
set_option maxHeartbeats 4000000 in
theorem does15 (w : World) (own : Own) (p y : Nat) (S' : OrgS) (on n : Int) (a b : ByteArray)
    (hcall : ∀ W, Ext w W → Calls Tryz.prog 90 #[ptr p, .string a] W fun e w' => e = .returned (.int .i64 y) ∧ OrgPost W own p S' w') :
    Calls Tryz.prog 37 #[ptr p, OpV on 15 a b n] w (DoesPost w own p 0 y S') := by
  have HC := hid hcall
  clear hcall
  go_enter Tryz.func37, Tryz.ntmps37
  go_wp2_with (go_at_call 90; refine (HC.out _ ?_).mono ?_; (first | exact (Ext.refl w).alloc _ | exact ((Ext.refl w).alloc _).drew | exact ((Ext.refl w).alloc _).drewN _); rintro r w3 ⟨rfl, hP⟩; have HP := hid hP; clear hP)
  all_goals go_ret2
  all_goals exact ⟨rfl, HP.out.behind (by first | exact (Ext.refl w).alloc _ | exact ((Ext.refl w).alloc _).drew | exact ((Ext.refl w).alloc _).drewN _)⟩
set_option maxHeartbeats 4000000 in
theorem does16 (w : World) (own : Own) (p y : Nat) (S' : OrgS) (on n : Int) (a b : ByteArray)
    (hcall : ∀ W, Ext w W → Calls Tryz.prog 91 #[ptr p, .string a] W fun e w' => e = .returned (.int .i64 y) ∧ OrgPost W own p S' w') :
    Calls Tryz.prog 37 #[ptr p, OpV on 16 a b n] w (DoesPost w own p 0 y S') := by
  have HC := hid hcall
  clear hcall
  go_enter Tryz.func37, Tryz.ntmps37
  go_wp2_with (go_at_call 91; refine (HC.out _ ?_).mono ?_; (first | exact (Ext.refl w).alloc _ | exact ((Ext.refl w).alloc _).drew | exact ((Ext.refl w).alloc _).drewN _); rintro r w3 ⟨rfl, hP⟩; have HP := hid hP; clear hP)
  all_goals go_ret2
  all_goals exact ⟨rfl, HP.out.behind (by first | exact (Ext.refl w).alloc _ | exact ((Ext.refl w).alloc _).drew | exact ((Ext.refl w).alloc _).drewN _)⟩
set_option maxHeartbeats 4000000 in
theorem does17 (w : World) (own : Own) (p y : Nat) (S' : OrgS) (on n : Int) (a b : ByteArray)
    (hcall : ∀ W, Ext w W → Calls Tryz.prog 28 #[ptr p, .int .i64 n] W fun e w' => e = .returned (.int .i64 y) ∧ OrgPost W own p S' w') :
    Calls Tryz.prog 37 #[ptr p, OpV on 17 a b n] w (DoesPost w own p 0 y S') := by
  have HC := hid hcall
  clear hcall
  go_enter Tryz.func37, Tryz.ntmps37
  go_wp2_with (go_at_call 28; refine (HC.out _ ?_).mono ?_; (first | exact (Ext.refl w).alloc _ | exact ((Ext.refl w).alloc _).drew | exact ((Ext.refl w).alloc _).drewN _); rintro r w3 ⟨rfl, hP⟩; have HP := hid hP; clear hP)
  all_goals go_ret2
  all_goals exact ⟨rfl, HP.out.behind (by first | exact (Ext.refl w).alloc _ | exact ((Ext.refl w).alloc _).drew | exact ((Ext.refl w).alloc _).drewN _)⟩
set_option maxHeartbeats 4000000 in
theorem does_none (w : World) (own : Own) (p : Nat) (S' : OrgS) (on k n : Int) (a b : ByteArray) (h : OrgAt w own p S') (h1 : (k == 1) = false) (h2 : (k == 2) = false) (h3 : (k == 3) = false) (h4 : (k == 4) = false) (h5 : (k == 5) = false) (h6 : (k == 6) = false) (h7 : (k == 7) = false) (h8 : (k == 8) = false) (h9 : (k == 9) = false) (h10 : (k == 10) = false) (h11 : (k == 11) = false) (h12 : (k == 12) = false) (h13 : (k == 13) = false) (h14 : (k == 14) = false) (h15 : (k == 15) = false) (h16 : (k == 16) = false) (h17 : (k == 17) = false) :
    Calls Tryz.prog 37 #[ptr p, OpV on k a b n] w (DoesPost w own p 0 0 S') := by
  have HA := hid h
  clear h
  go_enter Tryz.func37, Tryz.ntmps37
  go_wp2_with fail
  go_ret2
  exact ⟨rfl, OrgPost.ext HA.out ((Ext.refl w).alloc _)⟩

/-- What a call makes of an organisation. -/
noncomputable def OrgS.does (S : OrgS) (k : Int) (a b : ByteArray) (n : Int) : (Nat × Nat) × OrgS :=
  if k = 1 then ((S.user a).1, (S.user a).2)
  else if k = 2 then ((0, (S.noUser a).1), (S.noUser a).2)
  else if k = 3 then ((S.role a).1, (S.role a).2)
  else if k = 4 then ((0, (S.noRole a).1), (S.noRole a).2)
  else if k = 5 then ((0, (S.join a b).1), (S.join a b).2)
  else if k = 6 then ((0, (S.leave a b).1), (S.leave a b).2)
  else if k = 7 then ((0, (S.over a b).1), (S.over a b).2)
  else if k = 8 then ((0, (S.noOver a b).1), (S.noOver a b).2)
  else if k = 9 then ((0, (S.grant a b).1), (S.grant a b).2)
  else if k = 10 then ((0, (S.revoke a b).1), (S.revoke a b).2)
  else if k = 11 then ((0, (S.bar a b).1), (S.bar a b).2)
  else if k = 12 then ((0, (S.unbar a b).1), (S.unbar a b).2)
  else if k = 13 then ((0, (S.lend a b n).1), (S.lend a b n).2)
  else if k = 14 then ((0, (S.back a b).1), (S.back a b).2)
  else if k = 15 then ((0, (S.rest a).1), (S.rest a).2)
  else if k = 16 then ((0, (S.wake a).1), (S.wake a).2)
  else if k = 17 then ((0, (S.tick n).1), (S.tick n).2)
  else ((0, 0), S)
theorem OrgS.Inv.does {S : OrgS} {m : Nat} (h : S.Inv m) (k : Int) (a b : ByteArray) (n : Int) : (S.does k a b n).2.Inv (m + 1) := by
  unfold OrgS.does
  by_cases h1 : k = 1
  · rw [if_pos h1]; exact h.user a
  rw [if_neg h1]
  by_cases h2 : k = 2
  · rw [if_pos h2]; exact h.noUser a
  rw [if_neg h2]
  by_cases h3 : k = 3
  · rw [if_pos h3]; exact h.role a
  rw [if_neg h3]
  by_cases h4 : k = 4
  · rw [if_pos h4]; exact h.noRole a
  rw [if_neg h4]
  by_cases h5 : k = 5
  · rw [if_pos h5]; exact h.join a b
  rw [if_neg h5]
  by_cases h6 : k = 6
  · rw [if_pos h6]; exact h.leave a b
  rw [if_neg h6]
  by_cases h7 : k = 7
  · rw [if_pos h7]; exact h.over a b
  rw [if_neg h7]
  by_cases h8 : k = 8
  · rw [if_pos h8]; exact h.noOver a b
  rw [if_neg h8]
  by_cases h9 : k = 9
  · rw [if_pos h9]; exact h.grant a b
  rw [if_neg h9]
  by_cases h10 : k = 10
  · rw [if_pos h10]; exact h.revoke a b
  rw [if_neg h10]
  by_cases h11 : k = 11
  · rw [if_pos h11]; exact h.bar a b
  rw [if_neg h11]
  by_cases h12 : k = 12
  · rw [if_pos h12]; exact h.unbar a b
  rw [if_neg h12]
  by_cases h13 : k = 13
  · rw [if_pos h13]; exact h.lend a b n
  rw [if_neg h13]
  by_cases h14 : k = 14
  · rw [if_pos h14]; exact h.back a b
  rw [if_neg h14]
  by_cases h15 : k = 15
  · rw [if_pos h15]; exact h.rest a
  rw [if_neg h15]
  by_cases h16 : k = 16
  · rw [if_pos h16]; exact h.wake a
  rw [if_neg h16]
  by_cases h17 : k = 17
  · rw [if_pos h17]; exact h.tick n
  rw [if_neg h17]
  exact h.mono (Nat.le_succ m)
theorem does_any {w : World} {own : Own} {p : Nat} {S : OrgS} {m : Nat} (h : OrgAt w own p S) (hI : S.Inv m) (hm : m ≤ 60000) (on k n : Int) (a b : ByteArray) :
    Calls Tryz.prog 37 #[ptr p, OpV on k a b n] w (DoesPost w own p (S.does k a b n).1.1 (S.does k a b n).1.2 (S.does k a b n).2) := by
  have hep : S.ep < 1000000 := by have := hI.ep; omega
  have hes : S.es.length ≤ 60000 := Nat.le_trans hI.es hm
  have htu : S.turns < 4000000000 := by have := hI.turns; omega
  unfold OrgS.does
  by_cases h1 : k = 1
  · subst h1
    rw [if_pos rfl]
    exact does1 w own p _ _ _ on n a b fun W hW => user_any a (h.ext hW) hep
  rw [if_neg h1]
  by_cases h2 : k = 2
  · subst h2
    rw [if_pos rfl]
    exact does2 w own p _ _ on n a b fun W hW => noUser_any a (h.ext hW) hep hes
  rw [if_neg h2]
  by_cases h3 : k = 3
  · subst h3
    rw [if_pos rfl]
    exact does3 w own p _ _ _ on n a b fun W hW => role_any a (h.ext hW) hep
  rw [if_neg h3]
  by_cases h4 : k = 4
  · subst h4
    rw [if_pos rfl]
    exact does4 w own p _ _ on n a b fun W hW => noRole_any a (h.ext hW) hep
  rw [if_neg h4]
  by_cases h5 : k = 5
  · subst h5
    rw [if_pos rfl]
    exact does5 w own p _ _ on n a b fun W hW => join_any a b (h.ext hW) hep
  rw [if_neg h5]
  by_cases h6 : k = 6
  · subst h6
    rw [if_pos rfl]
    exact does6 w own p _ _ on n a b fun W hW => leave_any a b (h.ext hW) hep
  rw [if_neg h6]
  by_cases h7 : k = 7
  · subst h7
    rw [if_pos rfl]
    exact does7 w own p _ _ on n a b fun W hW => over_any a b (h.ext hW) hep
  rw [if_neg h7]
  by_cases h8 : k = 8
  · subst h8
    rw [if_pos rfl]
    exact does8 w own p _ _ on n a b fun W hW => noOver_any a b (h.ext hW) hep
  rw [if_neg h8]
  by_cases h9 : k = 9
  · subst h9
    rw [if_pos rfl]
    exact does9 w own p _ _ on n a b fun W hW => grant_any a b (h.ext hW) hep
  rw [if_neg h9]
  by_cases h10 : k = 10
  · subst h10
    rw [if_pos rfl]
    exact does10 w own p _ _ on n a b fun W hW => revoke_any a b (h.ext hW) hep
  rw [if_neg h10]
  by_cases h11 : k = 11
  · subst h11
    rw [if_pos rfl]
    exact does11 w own p _ _ on n a b fun W hW => bar_any a b (h.ext hW) hep
  rw [if_neg h11]
  by_cases h12 : k = 12
  · subst h12
    rw [if_pos rfl]
    exact does12 w own p _ _ on n a b fun W hW => unbar_any a b (h.ext hW) hep
  rw [if_neg h12]
  by_cases h13 : k = 13
  · subst h13
    rw [if_pos rfl]
    exact does13 w own p _ _ on n a b fun W hW => lend_any a b n (h.ext hW) hep hes htu
  rw [if_neg h13]
  by_cases h14 : k = 14
  · subst h14
    rw [if_pos rfl]
    exact does14 w own p _ _ on n a b fun W hW => back_any a b (h.ext hW) hep hes
  rw [if_neg h14]
  by_cases h15 : k = 15
  · subst h15
    rw [if_pos rfl]
    exact does15 w own p _ _ on n a b fun W hW => rest_any a (h.ext hW) hep
  rw [if_neg h15]
  by_cases h16 : k = 16
  · subst h16
    rw [if_pos rfl]
    exact does16 w own p _ _ on n a b fun W hW => wake_any a (h.ext hW) hep
  rw [if_neg h16]
  by_cases h17 : k = 17
  · subst h17
    rw [if_pos rfl]
    exact does17 w own p _ _ on n a b fun W hW => tick_any n (h.ext hW) hep hes hI.now2
  rw [if_neg h17]
  exact does_none w own p S on k n a b h (beq_eq_false_iff_ne.2 h1) (beq_eq_false_iff_ne.2 h2) (beq_eq_false_iff_ne.2 h3) (beq_eq_false_iff_ne.2 h4) (beq_eq_false_iff_ne.2 h5) (beq_eq_false_iff_ne.2 h6) (beq_eq_false_iff_ne.2 h7) (beq_eq_false_iff_ne.2 h8) (beq_eq_false_iff_ne.2 h9) (beq_eq_false_iff_ne.2 h10) (beq_eq_false_iff_ne.2 h11) (beq_eq_false_iff_ne.2 h12) (beq_eq_false_iff_ne.2 h13) (beq_eq_false_iff_ne.2 h14) (beq_eq_false_iff_ne.2 h15) (beq_eq_false_iff_ne.2 h16) (beq_eq_false_iff_ne.2 h17)
end Go.Proofs.YtnippamifihdpaaGreatDoor
namespace Go.Proofs.YtnippamifihdpaaGreatDoor
open Go Go.RowKit
set_option linter.unusedVariables false

/-- A call as data. -/
structure OpS where
  on : Int
  k : Int
  a : ByteArray
  b : ByteArray
  n : Int
/-- Calls in memory. -/
def OpsAt (w : World) (ad : Option Addr) (len : Nat) (ops : Nat → OpS) : Prop :=
  ∀ i, i < len → ∃ q : Addr, ad = some q ∧ w.cell? (q.add (i * 5)) = some (.int .i64 (ops i).on) ∧ w.cell? (q.add (i * 5 + 1)) = some (.int .i64 (ops i).k) ∧ w.cell? (q.add (i * 5 + 2)) = some (.string (ops i).a) ∧
    w.cell? (q.add (i * 5 + 3)) = some (.string (ops i).b) ∧ w.cell? (q.add (i * 5 + 4)) = some (.int .i64 (ops i).n)
theorem addr_block (a : Addr) (n : Nat) : (a.add n).block = a.block := by unfold Addr.add; split <;> rfl
theorem OpsAt.ext {w w' : World} {ad : Option Addr} {len : Nat} {ops : Nat → OpS} (h : OpsAt w ad len ops) (k : Ext w w') : OpsAt w' ad len ops := by
  intro i hi
  obtain ⟨q, h0, h1, h2, h3, h4, h5⟩ := h i hi
  have hl := World.block_lt_of_cell? w _ h1
  rw [addr_block] at hl
  have hk : ∀ n, w'.cell? (q.add n) = w.cell? (q.add n) := fun n => Fr.cell k (by rw [addr_block]; exact hl) id
  exact ⟨q, h0, (hk _).trans h1, (hk _).trans h2, (hk _).trans h3, (hk _).trans h4, (hk _).trans h5⟩
/-- An organisation behind the first k calls. -/
noncomputable def runTo (ops : Nat → OpS) : Nat → OrgS
  | 0 => OrgS.zero
  | k + 1 => ((runTo ops k).does (ops k).k (ops k).a (ops k).b (ops k).n).2
theorem inv_zero : OrgS.zero.Inv 0 := ⟨Nat.le_refl _, Nat.le_refl _, Nat.le_refl _, fun k u h => by simp [OrgS.zero] at h, fun k u h => by simp [OrgS.zero] at h, Nat.le_refl _, by decide, rfl, rfl, by decide, by decide, fun e he => by simp [OrgS.zero] at he⟩
theorem inv_run (ops : Nat → OpS) (k : Nat) : (runTo ops k).Inv k := by
  induction k with
  | zero => exact inv_zero
  | succ k ih => exact ih.does _ _ _ _

def InRel (xs : List ByteArray) (x : ByteArray) (i : Value) : Prop := ∃ k : Nat, i = .int .i64 k ∧ k ≤ xs.length ∧ x ∉ xs.take k
theorem in_yes {xs : List ByteArray} {x : ByteArray} {k : Nat} (h : xs[k]? = some x) : true = decide (x ∈ xs) := (decide_eq_true (List.mem_of_getElem? h)).symm
theorem in_no {xs : List ByteArray} {x s : ByteArray} {k : Nat} (h : x ∉ xs.take k) (hs : xs[k]? = some s) (hne : s ≠ x) : x ∉ xs.take (k + 1) := by
  rw [List.take_add_one, hs, Option.toList_some, List.mem_append]
  rintro (hq | hq)
  · exact h hq
  · exact hne (List.mem_singleton.1 hq).symm
end Go.Proofs.YtnippamifihdpaaGreatDoor
namespace Go.Proofs.YtnippamifihdpaaGreatDoor
open Go Go.RowKit
set_option linter.unusedVariables false

theorem toList_ne {s x : ByteArray} (h : s ≠ x) : (s.toList == x.toList) = false := by
  rw [beq_eq_false_iff_ne]
  intro hq
  rw [ByteArray.toList_eq, ByteArray.toList_eq] at hq
  refine h ?_
  obtain ⟨⟨a⟩⟩ := s
  obtain ⟨⟨b⟩⟩ := x
  simp at hq
  rw [hq]
set_option maxHeartbeats 2000000 in
theorem in_any (w : World) (base : Nat) (ad : Option Addr) (cap : Nat) (xs : List ByteArray) (x : ByteArray) (hown : w.ownsRow base 9 1 (.slice ad xs.length cap) xs.length (xs.map .string)) (hlen : xs.length ≤ 1000000) :
    Calls Tryz.prog 21 #[.slice ad xs.length cap, .string x] w fun e w' => e = .returned (.bool (decide (x ∈ xs))) ∧ w = w' := by
  have hc : ∀ (k : Nat) (s : ByteArray), xs[k]? = some s → ∃ g, ad = some ⟨g, 0, none⟩ ∧ w.cell? ⟨g, k, none⟩ = some (.string s) := by
    intro k s hs
    have hs2 : (xs.map Value.string)[k]? = some (.string s) := by rw [List.getElem?_map, hs]; rfl
    rcases hown.2 with ⟨hv, hn⟩ | ⟨g, cap', cur, hv, hb, hg, hc2, hm, hsz, ht⟩
    · exfalso
      have : xs = [] := List.eq_nil_of_length_eq_zero (by simpa using hn)
      rw [this] at hs
      simp at hs
    · injection hv with q1 q2 q3
      refine ⟨g, q1, ?_⟩
      rw [Blk.cell hg k, ← Array.getElem?_toList]
      rw [← ht, List.getElem?_take] at hs2
      split at hs2
      · exact hs2
      · cases hs2
  have HC := hid hc
  clear hc hown
  have H0 : Hid (InRel xs x (.int .i64 ((0 : Nat) : Int))) := hid ⟨0, rfl, Nat.zero_le _, by simp⟩
  go_enter Tryz.func21, Tryz.ntmps21
  go_wp2_with fail
  go_loop [5] (fun i => InRel xs x i) (fun i => xs.length - numOf i)
  case atStart => exact H0.out
  case round =>
    clear H0
    obtain ⟨k, rfl, hk, hnot⟩ := hrel
    by_cases hlt : k < xs.length
    · obtain ⟨s, hs⟩ : ∃ s, xs[k]? = some s := ⟨xs[k]'hlt, List.getElem?_eq_getElem hlt⟩
      obtain ⟨g, rfl, cg⟩ := HC.out k s hs
      have hk1 : (k : Int) < (xs.length : Int) := by omega
      have hk2 : decide ((k : Int) < (xs.length : Int)) = true := by simp; omega
      have hk0 : (0 : Int) ≤ k := by omega
      obtain ⟨k1, hk1'⟩ : ∃ k1, k + 1 = k1 := ⟨_, rfl⟩
      have e1 : (k : Int) + 1 = (k1 : Int) := by omega
      have hk1le : k1 ≤ xs.length := by omega
      have HK1 := hid hk1'
      have HS := hid hs
      have HN := hid hnot
      by_cases hq : s = x
      · subst hq
        have HT := hid (in_yes hs)
        clear hs hnot hk1' hk
        go_wp2_with fail
        go_ret
        exact ⟨ret_bool HT.out, rfl⟩
      · have hqb : (s.toList == x.toList) = false := toList_ne hq
        have HT := hid (in_no hnot hs hq)
        clear hs hnot hk1' hk hq
        go_wp2_with fail
        go_round
        case rel => exact ⟨k1, rfl, hk1le, by rw [← HK1.out]; exact HT.out⟩
        case measure => simp only [numOf]; omega
    · have hk2 : decide ((k : Int) < (xs.length : Int)) = false := by simp; omega
      have HT : Hid (false = decide (x ∈ xs)) := hid (by
        have : k = xs.length := by omega
        subst this
        rw [List.take_length] at hnot
        exact (decide_eq_false hnot).symm)
      clear hnot hk
      go_wp2_with fail
      go_ret
      exact ⟨ret_bool HT.out, rfl⟩

theorem cell_at {w : World} {q : Addr} {m j : Nat} {v : Value} (h : w.cell? (q.add (m + (j + 1))) = some v) : w.cell? ⟨(q.add m).block, (q.add m).off + (j + 1), none⟩ = some v := by
  have e : q.add (m + (j + 1)) = ⟨(q.add m).block, (q.add m).off + (j + 1), none⟩ := by
    unfold Addr.add
    by_cases hm : m = 0
    · simp [hm]
    · simp [hm]; omega
  rw [← e]
  exact h
def MadeRel (w : World) (p : Nat) (ops : Nat → OpS) (n : Nat) (i : Value) (wr : World) : Prop :=
  ∃ (k : Nat) (own : Own), i = .int .i64 k ∧ k ≤ n ∧ OrgAt wr own p (runTo ops k) ∧ Ext w wr ∧ ∀ c t, own c = some t → w.heap.size ≤ c
theorem made_rel {w wr w3 : World} {p k k1 n x y : Nat} {own : Own} {ops : Nat → OpS} {e : Ending} (hk : k + 1 = k1) (hk1 : k1 ≤ n) (hE : Ext w wr) (hlo : ∀ c t, own c = some t → w.heap.size ≤ c) (h : OrgPost wr own p (runTo ops (k + 1)) w3) : MadeRel w p ops n (.int .i64 (k1 : Nat)) w3 := by
  subst hk
  obtain ⟨own', h1, h2, h3, h4⟩ := h
  refine ⟨k + 1, own', rfl, hk1, h1, ?_, fun c t hc => (h4 c t hc).elim (hlo c t) fun h => Nat.le_trans hE.size h⟩
  exact hE.trans' h2 fun b hb hq => by
    cases hc : own b with
    | none => exact (hq hc).elim
    | some t => have := hlo b t hc; omega
def MadePost (w : World) (ops : Nat → OpS) (n : Nat) (e : Ending) (w' : World) : Prop :=
  ∃ (p : Nat) (own : Own), e = .returned (ptr p) ∧ OrgAt w' own p (runTo ops n) ∧ Ext w w' ∧ ∀ c t, own c = some t → w.heap.size ≤ c

set_option maxRecDepth 100000 in
set_option maxHeartbeats 4000000 in
theorem made_any (w : World) (ad : Option Addr) (len cap : Nat) (ops : Nat → OpS) (n : Nat) (hn : n = min len 200) (hops : OpsAt w ad len ops) (hT : Tab w) (hlen : len ≤ 9223372036854775807) :
    Calls Tryz.prog 14 #[.slice ad len cap] w (MadePost w ops n) := by
  have HOPS := hid hops
  have hnl : n ≤ len := by omega
  have hn2 : n ≤ 200 := by omega
  have hn3 : ∀ k, k ≤ n → ¬ k < n → len ≤ k ∨ 200 ≤ k := by intro k h1 h2; omega
  have HN3 := hid hn3
  have hnew := orgNew_walk w hT
  clear hops hn hT hn3
  go_enter Tryz.func14, Tryz.ntmps14
  go_wp2_with (go_at_call 44; refine hnew.mono ?_; rintro r w1 ⟨p, rfl, hE, own, hO, hlo⟩; have HE := hid hE; have HO := hid hO; have HLO := hid hlo; clear hE hO hlo)
  have H0 : Hid (MadeRel w p ops n (.int .i64 ((0 : Nat) : Int)) w1) := hid ⟨0, own, rfl, Nat.zero_le _, HO.out, HE.out, HLO.out⟩
  clear hnew
  go_loopw [4] (fun i wr => MadeRel w p ops n i wr) (fun i _ => n - numOf i)
  case atStart => exact H0.out
  case round =>
    clear H0
    obtain ⟨k, own2, rfl, hk, hO2, hE2, hlo2⟩ := hrel
    have hI := inv_run ops k
    by_cases hlt : k < n
    · obtain ⟨q, hq, q0, q1, q2, q3, q4⟩ := (HOPS.out.ext hE2) k (by omega)
      subst hq
      obtain ⟨on, kk, a, b, nn, hop⟩ : ∃ on kk a b nn, ops k = ⟨on, kk, a, b, nn⟩ := ⟨_, _, _, _, _, rfl⟩
      rw [hop] at q0 q1 q2 q3 q4
      dsimp only at q0 q1 q2 q3 q4
      have q1 := cell_at q1
      have q2 := cell_at q2
      have q3 := cell_at q3
      have q4 := cell_at q4
      simp only [Nat.zero_add, Nat.reduceAdd] at q1 q2 q3 q4
      have hst : runTo ops (k + 1) = ((runTo ops k).does kk a b nn).2 := by rw [runTo, hop]
      have HST := hid hst
      have hk1 : (k : Int) < (len : Int) := by omega
      have hk2 : decide ((k : Int) < (len : Int)) = true := by simp; omega
      have hk3 : decide ((k : Int) < 200) = true := by simp; omega
      have hk0 : (0 : Int) ≤ k := by omega
      obtain ⟨k1, hk1'⟩ : ∃ k1, k + 1 = k1 := ⟨_, rfl⟩
      have e1 : (k : Int) + 1 = (k1 : Int) := by omega
      have hk1le : k1 ≤ n := by omega
      have HK1 := hid hk1'
      have HO2 := hid hO2
      have HE2 := hid hE2
      have HLO2 := hid hlo2
      have HI := hid hI
      have hk6 : k ≤ 60000 := by omega
      clear hst hop hk1' hO2 hE2 hlo2 hI hk
      go_wp2_with (go_at_call 37; refine (does_any HO2.out HI.out hk6 on kk nn a b).mono ?_; rintro r w3 ⟨rfl, hP⟩; rw [← HST.out] at hP; have HP := hid hP; clear hP)
      go_roundw
      case rel => exact made_rel (e := .returned (.tuple #[])) (x := 0) (y := 0) HK1.out hk1le HE2.out HLO2.out HP.out
      case measure => simp only [numOf]; omega
    · have hke : k = n := by omega
      have hor := HN3.out k hk hlt
      have HO2 := hid hO2
      have HE2 := hid hE2
      have HLO2 := hid hlo2
      have HKE := hid hke
      clear hO2 hE2 hlo2 hI hk hke
      by_cases h1 : len ≤ k
      · have hk2 : decide ((k : Int) < (len : Int)) = false := by simp; omega
        clear hor
        go_wp2_with fail
        go_ret
        exact ⟨p, own2, rfl, by rw [← HKE.out]; exact HO2.out, HE2.out, HLO2.out⟩
      · have hk2 : decide ((k : Int) < (len : Int)) = true := by simp; omega
        have hk3 : decide ((k : Int) < 200) = false := by simp; omega
        clear hor
        go_wp2_with fail
        go_ret
        exact ⟨p, own2, rfl, by rw [← HKE.out]; exact HO2.out, HE2.out, HLO2.out⟩
end Go.Proofs.YtnippamifihdpaaGreatDoor
