/- What every row of this seat asks: the arguments read behind the call as they did; calls read out of an argument; the table. -/
import Derived.Test.YtnippamifihdpaaGreatDoorCards
import Derived.Test.YtnippamifihdpaaGreatDoorTie
import Derived.Test.YtnippamifihdpaaGreatDoorKLawB
import Derived.WalkKit
import Derived.ProofKit
import Derived.OpenShut
import Derived.Carry
import Derived.Deep.DeepHandedRow
import Derived.Deep.Slices
import Derived.Deep.Fields
import Derived.Lib.SmallJoins
import Derived.Lib.LaidTab
namespace Go.Proofs.YtnippamifihdpaaGreatDoor
open Go Go.ChangeShapes Go.WideShapes Go.ChangeAt Go.RowKit
set_option linter.unusedVariables false

theorem seatOwn : ownKnob Tryz.prog.godebug = none := by kernel_rfl
theorem seatLaidOut : laidOutB Tryz.prog = true := by kernel_rfl
theorem gTab : Tryz.prog.globalNamed "math/bits.deBruijn64tab" = some 6 := by kernel_rfl

section
variable {H : Type} {enc : TypeId × Value → H}
/-- Arguments read behind the call as they did. -/
theorem trodAll_stays {W W' : World} (hb : Ext W W') : ∀ {ts : List TypeId} {vs : List Value} {ds : List (DataW H)} {ps : List MemPlace} {sp : Nat → Bool}, (∀ t ∈ ts, Tryz.prog.readableRec t = true ∧ t < Tryz.prog.types.size) →
    DataW.TrodAll enc Tryz.prog W 0 (fun _ => true) true ts vs ds ps → (∀ x ∈ ps, x.block < W.heap.size) → (∀ x ∈ ps, sp x.block = true) → DataW.TrodAll enc Tryz.prog W' 0 sp true ts vs ds ps
  | [], vs, ds, ps, sp, _, h, _, _ => by
    obtain ⟨rfl, rfl, rfl⟩ := trodAll_nil h
    exact trodAll_mk0
  | t :: ts, vs, ds, ps, sp, hr, h, hlt, hsp => by
    obtain ⟨v, vs', d, ds', p, q, rfl, rfl, rfl, h1, h2⟩ := trodAll_cons h
    have h3 := hr t (by simp)
    refine trodAll_cons_mk (WideElems.Trod_stays seatLaidOut h3.1 h3.2 h1 (fun x hx => hb.below.same (hlt x (by simp [hx]))) (fun x hx => hsp x (by simp [hx])))
      (trodAll_stays hb (fun t ht => hr t (by simp [ht])) h2 (fun x hx => hlt x (by simp [hx])) (fun x hx => hsp x (by simp [hx])))

set_option maxRecDepth 100000 in
/-- The last step of a law's row: true, and nothing that was there has turned. -/
theorem post_true {f : Func} {s : ChangeSpec} {apart fresh handsOn again : Bool} {W W' : World} {args : Array Value} {ds gs : List (DataW H)} {before : List MemPlace}
    (hW : DataW.Whole enc Tryz.prog f.params.toList s.vars apart W args.toList ds gs before) (hv : s.vars = []) (hr : ∀ t ∈ f.params.toList, Tryz.prog.readableRec t = true ∧ t < Tryz.prog.types.size)
    (hs : ∀ ds' : List (DataW H), ds'.length = f.params.toList.length → s.fn H ds' = { results := [.lit (.bool true)], args := ds' }) (hlen : ds.length = f.params.toList.length) (hres : f.resultTypes = #[4]) (hb : Ext W W') :
    s.post enc Tryz.prog f apart fresh handsOn again W args (.bool true) W' := by
  have hW' := hW
  obtain ⟨p, q, hA, hV, rfl, hz, hn⟩ := hW
  rw [hv] at hV
  obtain ⟨rfl, rfl⟩ := trodVars_none hV
  have hlt : ∀ x ∈ p ++ [], x.block < W.heap.size := fun x hx => hW'.lt x hx
  have e1 : s.fn H (ds ++ []) = { results := [.lit (.bool true)], args := ds } := by rw [List.append_nil]; exact hs ds hlen
  have hold : ∀ x ∈ p ++ [], (fun b => decide (b < W.heap.size)) x.block = true := fun x hx => by simpa using hlt x hx
  have hargs : ∀ sp : Nat → Bool, (∀ x ∈ p ++ [], sp x.block = true) → DataW.TrodAll enc Tryz.prog W' 0 sp true f.params.toList args.toList ds p := fun sp hsp =>
    trodAll_stays hb hr hA (fun x hx => hlt x (by simpa using hx)) (fun x hx => hsp x (by simpa using hx))
  have hok : ∀ (j : Nat) (t : TypeId) (r : Value), f.resultTypes[j]? = some t → ((Value.bool true).resultList f.resultTypes.size)[j]? = some r → Value.okWide Tryz.prog W' .any 0 t r :=
    ok_one hres rfl (okWide_bool_mk Tryz.underlying4 _)
  have hresl : ∀ (b : Nat) (sp : Nat → Bool) (hd : Bool), DataW.TrodAll enc Tryz.prog W' b sp hd f.resultTypes.toList ((Value.bool true).resultList f.resultTypes.size) [.lit (.bool true)] [] := fun b sp hd => by
    rw [hres]
    exact trodAll_cons_mk (shut_bool Tryz.underlying4 _) trodAll_mk0
  refine ⟨ds, [], p ++ [], [], p, [], hW', ?_, ?_, ?_, World.keptBut_mono (fun x hx => ⟨hx, ?_⟩) (hb.below.frame (· ∈ p ++ [])), fun _ => ?_⟩
  · rw [e1]; exact hresl _ _ _
  · rw [e1]; exact hargs _ hold
  · rw [e1, hv]; rfl
  · exact .inr (by simpa using hx)
  · refine ⟨hok, [.lit (.bool true)] ++ ds, [], ([] ++ p) ++ [], ⟨[] ++ p, [], trodAll_append (hargs _ (fun _ _ => rfl)) (hresl _ _ _), by rw [hv]; rfl, rfl, ?_, ?_⟩, ?_⟩
    · intro b off hp
      have hin : MemPlace.cell b off ∈ p ++ [] := by simpa using hp
      rw [hb.below.frozen (hlt _ hin)]
      exact hz b off hin
    · intro ha
      have := hn ha
      simpa using this
    · intro x hx _
      simpa using hx

set_option maxRecDepth 100000 in
/-- Calls read out of an argument. -/
theorem ops_of_trod {w : World} {fuel : Nat} {v : Value} {x : DataW H × List MemPlace} (h : DataW.trod enc Tryz.prog w 0 (fun _ => true) true fuel 22 [v] = some x) :
    ∃ (ad : Option Addr) (len cap : Nat) (ops : Nat → OpS), v = .slice ad len cap ∧ OpsAt w ad len ops ∧ len ≤ maxLen := by
  rcases Go.Deep.open_slice Tryz.underlying22 h with ⟨h1, _⟩ | ⟨a, len, cap, m, n, D, Pl, hv, hb, hl, hm, hmm, hx, hi⟩
  · simp only [List.cons.injEq, and_true] at h1
    exact ⟨none, 0, 0, fun _ => ⟨0, 0, ⟨#[]⟩, ⟨#[]⟩, 0⟩, h1, fun i hi => absurd hi (Nat.not_lt_zero i), Nat.zero_le _⟩
  · simp only [List.cons.injEq, and_true] at hv
    have hC : Tryz.prog.cellsOf 53 = 5 := by kernel_rfl
    have key : ∀ i, i < len → ∃ o : OpS, w.cell? (a.add (i * 5)) = some (.int .i64 o.on) ∧ w.cell? (a.add (i * 5 + 1)) = some (.int .i64 o.k) ∧ w.cell? (a.add (i * 5 + 2)) = some (.string o.a) ∧ w.cell? (a.add (i * 5 + 3)) = some (.string o.b) ∧ w.cell? (a.add (i * 5 + 4)) = some (.int .i64 o.n) := by
      intro i hil
      obtain ⟨cs, hc, ht⟩ := hi i (by rw [hmm]; simp; omega)
      rw [hC] at hc
      obtain ⟨ys, n', hn', hy, hlen, hyl, hf⟩ := DataW.trod_struct Tryz.underlying53 ht
      obtain ⟨_, hcl, hat⟩ := World.cells?_some hc
      have c3 : Tryz.prog.cellsOf 3 = 1 := by kernel_rfl
      have c9 : Tryz.prog.cellsOf 9 = 1 := by kernel_rfl
      match cs, hcl with
      | [v0, v1, v2, v3, v4], _ =>
        match ys, hyl with
        | [y0, y1, y2, y3, y4], _ =>
          have f0 : DataW.trod enc Tryz.prog w 0 (fun _ => true) true n' 3 (([v0, v1, v2, v3, v4].drop 0).take (Tryz.prog.cellsOf 3)) = some y0 := hf 0 _ rfl
          rw [c3] at f0
          obtain ⟨n0, e0, _, _⟩ := DataW.trod_int Tryz.underlying3 f0
          have f1 : DataW.trod enc Tryz.prog w 0 (fun _ => true) true n' 3 (([v0, v1, v2, v3, v4].drop 1).take (Tryz.prog.cellsOf 3)) = some y1 := hf 1 _ rfl
          rw [c3] at f1
          obtain ⟨n1, e1, _, _⟩ := DataW.trod_int Tryz.underlying3 f1
          have f2 : DataW.trod enc Tryz.prog w 0 (fun _ => true) true n' 9 (([v0, v1, v2, v3, v4].drop 2).take (Tryz.prog.cellsOf 9)) = some y2 := hf 2 _ rfl
          rw [c9] at f2
          obtain ⟨s2, e2, _, _⟩ := DataW.trod_string Tryz.underlying9 f2
          have f3 : DataW.trod enc Tryz.prog w 0 (fun _ => true) true n' 9 (([v0, v1, v2, v3, v4].drop 3).take (Tryz.prog.cellsOf 9)) = some y3 := hf 3 _ rfl
          rw [c9] at f3
          obtain ⟨s3, e3, _, _⟩ := DataW.trod_string Tryz.underlying9 f3
          have f4 : DataW.trod enc Tryz.prog w 0 (fun _ => true) true n' 3 (([v0, v1, v2, v3, v4].drop 4).take (Tryz.prog.cellsOf 3)) = some y4 := hf 4 _ rfl
          rw [c3] at f4
          obtain ⟨n4, e4, _, _⟩ := DataW.trod_int Tryz.underlying3 f4
          simp only [List.drop_zero, List.drop_succ_cons, List.take_succ_cons, List.take_zero, List.cons.injEq, and_true] at e0 e1 e2 e3 e4
          subst e0 e1 e2 e3 e4
          have g : ∀ (j : Nat) (v : Value), j < 5 → [Value.int .i64 n0, .int .i64 n1, .string s2, .string s3, .int .i64 n4][j]? = some v → w.cell? (a.add (i * 5 + j)) = some v := fun j v hj hv => by rw [← Go.Deep.add_add, hat j hj]; exact hv
          exact ⟨⟨n0, n1, s2, s3, n4⟩, g 0 _ (by decide) rfl, g 1 _ (by decide) rfl, g 2 _ (by decide) rfl, g 3 _ (by decide) rfl, g 4 _ (by decide) rfl⟩
    obtain ⟨ops, hops⟩ : ∃ ops : Nat → OpS, ∀ i, i < len → w.cell? (a.add (i * 5)) = some (.int .i64 (ops i).on) ∧ w.cell? (a.add (i * 5 + 1)) = some (.int .i64 (ops i).k) ∧ w.cell? (a.add (i * 5 + 2)) = some (.string (ops i).a) ∧ w.cell? (a.add (i * 5 + 3)) = some (.string (ops i).b) ∧ w.cell? (a.add (i * 5 + 4)) = some (.int .i64 (ops i).n) := by
      haveI : Inhabited OpS := ⟨⟨0, 0, ⟨#[]⟩, ⟨#[]⟩, 0⟩⟩
      exact Go.Deep.choose_lt key
    exact ⟨some a, len, cap, ops, hv, fun i hil => ⟨a, rfl, hops i hil⟩, Nat.le_trans hl hm⟩
end
end Go.Proofs.YtnippamifihdpaaGreatDoor
