/- org: New. org: New, the walk. -/
import Derived.Test.YtnippamifihdpaaGreatDoorKOrgC
import Derived.Handy
namespace Go.Proofs.YtnippamifihdpaaGreatDoor
open Go Go.RowKit
set_option linter.unusedVariables false

/-- An organisation without users and roles. -/
def OrgS.zero : OrgS := ⟨[], [], [], [], fun _ => 0, [], 0, 1, 0⟩
theorem Items.nil {α : Type} (P : Nat → Nat → α → Prop) : Items P [] [] := ⟨rfl, fun i b h => by simp at h, fun i h => by simp at h⟩
theorem RegAt.nil {w : World} {own : Own} {s : Bool} {te : TypeId} {m : Nat} (h : w.heap[m]? = some (.map #[] 0)) (ho : own m = some (.map s)) : RegAt w own s te (.map (some m)) (.slice none 0 0) (.slice none 0 0) [] [] :=
  ⟨rfl, by simp, by simp, ⟨m, #[], 0, rfl, ho, h, rfl⟩, World.ownsRow_nil _ _ _ _, (fun b hb => by cases hb), World.ownsRow_nil _ _ _ _, (fun b hb => by cases hb)⟩
open Classical in
theorem org_made {w w4 w5 : World} {m1 m2 br pa p : Nat} {D : Nat → Prop} (hE : Ext w w4) (hE5 : Ext w4 w5) (l1 : w.heap.size ≤ m1) (l2 : m1 < m2) (l3 : m2 < br) (l4 : ∀ b, D b → br < b) (l5 : w4.heap.size ≤ p)
    (h1 : w4.heap[m1]? = some (.map #[] 0)) (h2 : w4.heap[m2]? = some (.map #[] 0)) (hR : RankAt w4 br (fun _ => 0)) (hA : Ag w4 pa [] 0 D) (hT : Tab w)
    (hp : Blk w5 p #[.map (some m1), .slice none 0 0, .slice none 0 0, .int .i64 64, .map (some m2), .slice none 0 0, .slice none 0 0, .int .i64 64, ptr br, ptr pa, .int .i64 1, .int .u64 0] 103) :
    ∃ own, OrgAt w5 own p OrgS.zero ∧ ∀ c t, own c = some t → w.heap.size ≤ c := by
  have b1 : m1 < w4.heap.size := (Array.getElem?_eq_some_iff.1 h1).1
  have b2 : m2 < w4.heap.size := (Array.getElem?_eq_some_iff.1 h2).1
  have b3 : br < w4.heap.size := hR.blt
  have b4 : ∀ b, D b → b < w4.heap.size := fun b hb => hA.lt hb
  have tl : 6 < w.heap.size := World.block_lt_of_cell? w ⟨6, 0, none⟩ (hT 0 (by decide))
  have n4 : ∀ b, D b → b ≠ p ∧ b ≠ m1 ∧ b ≠ m2 ∧ b ≠ br := fun b hb => by have := l4 b hb; have := b4 b hb; omega
  obtain ⟨own, hown⟩ : ∃ own : Own, own = fun c => if c = p then some .org else if c = m1 then some (.map false) else if c = m2 then some (.map true) else if c = br then some .rank else if D c then some .loans else none := ⟨_, rfl⟩
  have op : own p = some .org := by rw [hown]; simp
  have o1 : own m1 = some (.map false) := by rw [hown]; simp only; rw [if_neg (by omega), if_pos trivial]
  have o2 : own m2 = some (.map true) := by rw [hown]; simp only; rw [if_neg (by omega), if_neg (by omega), if_pos trivial]
  have o3 : own br = some .rank := by rw [hown]; simp only; rw [if_neg (by omega), if_neg (by omega), if_neg (by omega), if_pos trivial]
  have o4 : ∀ b, D b → own b = some .loans := fun b hb => by
    obtain ⟨q1, q2, q3, q4⟩ := n4 b hb
    rw [hown]; simp only; rw [if_neg q1, if_neg q2, if_neg q3, if_neg q4, if_pos hb]
  have o5 : ∀ c t, own c = some t → c = p ∨ c = m1 ∨ c = m2 ∨ c = br ∨ D c := fun c t hc => by
    rw [hown] at hc
    simp only at hc
    by_cases e1 : c = p
    · exact .inl e1
    · rw [if_neg e1] at hc
      by_cases e2 : c = m1
      · exact .inr (.inl e2)
      · rw [if_neg e2] at hc
        by_cases e3 : c = m2
        · exact .inr (.inr (.inl e3))
        · rw [if_neg e3] at hc
          by_cases e4 : c = br
          · exact .inr (.inr (.inr (.inl e4)))
          · rw [if_neg e4] at hc
            by_cases e5 : D c
            · exact .inr (.inr (.inr (.inr e5)))
            · rw [if_neg e5] at hc; cases hc
  have lo : ∀ c t, own c = some t → w.heap.size ≤ c := fun c t hc => by
    have := hE.size
    rcases o5 c t hc with rfl | rfl | rfl | rfl | h
    · omega
    · omega
    · omega
    · omega
    · have := l4 c h; omega
  refine ⟨own, ⟨_, _, _, _, _, _, br, pa, [], [], D, ⟨hp, op, RegAt.nil (hE5.obj h1) o1, RegAt.nil (hE5.obj h2) o2, Items.nil _, Items.nil _, hR.fr hE5 id, o3, hA.fr hE5 (fun _ _ => id), o4, ?_, ?_, (hT.ext hE).ext hE5⟩⟩, lo⟩
  · intro c t hc
    have := hE5.size
    rcases o5 c t hc with rfl | rfl | rfl | rfl | h
    · exact hp.lt
    · omega
    · omega
    · omega
    · have := b4 c h; omega
  · cases hq : own 6 with
    | none => rfl
    | some t => have := lo _ t hq; omega
end Go.Proofs.YtnippamifihdpaaGreatDoor
namespace Go.Proofs.YtnippamifihdpaaGreatDoor
open Go Go.RowKit
set_option linter.unusedVariables false

def NewReg (w : World) (e : Ending) (w' : World) : Prop := ∃ m, e = .returned (.agg #[.map (some m), .slice none 0 0, .slice none 0 0, .int .i64 64]) ∧ w'.heap[m]? = some (.map #[] 0) ∧ Ext w w' ∧ w.heap.size ≤ m ∧ m < w'.heap.size
theorem newRegU (w : World) : Calls Tryz.prog 101 #[.int .i64 64] w (NewReg w) := by
  have hmm := @run_makeMap Tryz.prog
  go_enter Tryz.func101, Tryz.ntmps101
  go_wp2_with fail
  go_returns
  refine ⟨_, rfl, ?_, ?_, ?_, ?_⟩
  · have := heap_alloc_new (w.alloc (.cells #[.map (some (w.heap.size + 1)), .slice none 0 0, .slice none 0 0, .int .i64 64] 96)) (.map #[] 0)
    simpa using this
  · exact ((Ext.refl w).alloc _).alloc _
  · omega
  · simp
theorem newRegR (w : World) : Calls Tryz.prog 102 #[.int .i64 64] w (NewReg w) := by
  have hmm := @run_makeMap Tryz.prog
  go_enter Tryz.func102, Tryz.ntmps102
  go_wp2_with fail
  go_returns
  refine ⟨_, rfl, ?_, ?_, ?_, ?_⟩
  · have := heap_alloc_new (w.alloc (.cells #[.map (some (w.heap.size + 1)), .slice none 0 0, .slice none 0 0, .int .i64 64] 99)) (.map #[] 0)
    simpa using this
  · exact ((Ext.refl w).alloc _).alloc _
  · omega
  · simp
set_option maxHeartbeats 2000000 in
theorem orgNew_walk (w : World) (hT : Tab w) : Calls Tryz.prog 44 #[] w fun e w' => ∃ p, e = .returned (ptr p) ∧ Ext w w' ∧ ∃ own, OrgAt w' own p OrgS.zero ∧ ∀ c t, own c = some t → w.heap.size ≤ c := by
  have HT := hid hT
  clear hT
  go_enter Tryz.func44, Tryz.ntmps44
  go_wp2_with (first | (go_at_call 101; refine (newRegU _).mono ?_; rintro r w1 ⟨m1, rfl, h1, hE1, l1, k1⟩; have H1 := hid h1; have HE1 := hid hE1; clear h1 hE1) | (go_at_call 102; refine (newRegR _).mono ?_; rintro r w2 ⟨m2, rfl, h2, hE2, l2, k2⟩; have H2 := hid h2; have HE2 := hid hE2; clear h2 hE2) | (go_at_call 103; refine (new_any _).mono ?_; rintro r w3 ⟨rfl, hR, hE3⟩; have HR := hid hR; have HE3 := hid hE3; clear hR hE3) | (go_at_call 104; refine (agNew_any _).mono ?_; rintro r w4 ⟨pa, rfl, hE4, D, hA, hD⟩; have HA := hid hA; have HE4 := hid hE4; have HD := hid hD; clear hA hE4 hD))
  go_ret
  have hE : Ext w w4 := ((HE1.out.trans HE2.out).trans HE3.out).trans HE4.out
  have s1 := HE1.out.size
  have s2 := HE2.out.size
  have hb := HR.out.blt
  have hA := HA.out
  obtain ⟨own, hO, hlo⟩ := org_made (w5 := w4.alloc (.cells #[.map (some m1), .slice none 0 0, .slice none 0 0, .int .i64 64, .map (some m2), .slice none 0 0, .slice none 0 0, .int .i64 64, ptr w2.heap.size, ptr pa, .int .i64 1, .int .u64 0] 103)) hE ((Ext.refl w4).alloc _) l1 (by omega) k2
    (fun b hb2 => Nat.lt_of_lt_of_le hb (HD.out b hb2)) (Nat.le_refl _) (HE4.out.obj (HE3.out.obj (HE2.out.obj H1.out))) (HE4.out.obj (HE3.out.obj H2.out)) (HR.out.fr HE4.out id) hA HT.out (Blk.new _ _ _)
  exact ⟨w4.heap.size, rfl, hE.alloc _, own, hO, hlo⟩
end Go.Proofs.YtnippamifihdpaaGreatDoor
