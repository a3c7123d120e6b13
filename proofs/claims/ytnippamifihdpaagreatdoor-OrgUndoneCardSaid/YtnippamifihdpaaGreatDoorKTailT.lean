/- A region that draws its order, inside a fence: plain reads ahead of a forced tail (the library's law for a region outside of fences, brought into them). A region that draws its order, inside a round: reads taken first under a condition on the world that holds till the tail. -/
import Derived.Test.YtnippamifihdpaaGreatDoorKBase
import Derived.StillTailTactics
import Derived.OrdersIn
import Derived.TacticsIn
import Derived.OrdersHeld
import Derived.OwnWalkIn
import Derived.RegionTactic
namespace Go.Proofs.YtnippamifihdpaaGreatDoor
open Go Go.RowKit
set_option linter.unusedVariables false

/-- Operations that read, and call nothing. -/
def plainOp : Op → Bool
  | .move _ => true
  | .load _ _ => true
  | .nilCheck _ => true
  | .fieldAddr _ _ _ => true
  | .binOp _ _ _ _ _ => true
  | .indexAddr _ _ _ => true
  | _ => false

section
variable {P : Program} {F : Fence} {m : Nat} {Q : Exit → Act → World → Prop} {ops : Array Oper} {w : World}
theorem plain_about {o : Oper} (hp : plainOp o.op = true) (ρ : Operand → Value) : o.about P w ρ = none := by
  unfold Oper.about
  cases ho : o.op <;> rw [ho] at hp <;> first | rfl | cases hp
theorem bind_value (s : Sem Value) (w : World) (f : FuncId) (args : Array Value) (w' : World) : (do pure (Next.value (← s)) : Sem Next).run P w ≠ .ok (.enter f args) w' := by
  simp only [Sem.run_bind]
  cases s.run P w with
  | ok v w1 => simp [Result.andThen]
  | halt h w1 => simp [Result.andThen]
theorem plain_enter {o : Oper} (hp : plainOp o.op = true) (ρ : Operand → Value) (f : FuncId) (args : Array Value) (w' : World) : (execOp ρ o).run P w ≠ .ok (.enter f args) w' := by
  unfold execOp
  cases ho : o.op with
  | move x => simp
  | load t a => exact bind_value _ _ _ _ _
  | fieldAddr s x f => exact bind_value _ _ _ _ _
  | binOp op xt x y yt => exact bind_value _ _ _ _ _
  | indexAddr t x ix => exact bind_value _ _ _ _ _
  | nilCheck x =>
    dsimp only
    cases hx : ρ x with
    | pointer p => cases p <;> simp [runtimePanic]
    | func fn first captured =>
      cases fn with
      | method name =>
        dsimp only
        cases hf : first[0]? with
        | none => simp
        | some v =>
          cases v with
          | iface t u =>
            dsimp only
            intro h
            simp only [Sem.run_bind, Result.andThen] at h
            repeat' split at h
            all_goals first | (simp at h; done) | (cases h; done)
          | _ => simp [runtimePanic]
      | _ => simp
    | _ => simp [runtimePanic]
  | _ => rw [ho] at hp; cases hp
theorem plain_defer {o : Oper} (hp : plainOp o.op = true) : ∀ c, o.op ≠ .defer c := by
  intro c h
  rw [h] at hp
  cases hp
theorem wpIn_of_still {o : Oper} (hp : plainOp o.op = true) {a : Act} {K : Act → Prop} {K' : Act → World → Prop} (h : ∀ a, K a → K' a w) (hh : o.still P a w K) : o.wpIn F m P a w K' Q := by
  refine ⟨fun f hf => (by rw [plain_about hp] at hf; cases hf), ?_⟩
  rw [Oper.semAt_eq _ _ _ (plain_defer hp)]
  unfold Oper.still at hh
  have he := plain_enter (P := P) (w := w) hp a.eval
  generalize (execOp a.eval o).run P w = r at hh he ⊢
  cases r with
  | ok x w' =>
    cases x with
    | value v =>
      obtain ⟨rfl, hk⟩ := hh
      exact h _ hk
    | skip =>
      obtain ⟨rfl, hk⟩ := hh
      exact h _ hk
    | enter f args => exact (he f args w' rfl).elim
    | _ => exact hh.elim
  | halt x w' => exact hh.elim
theorem wpOpIn_of_stOp {i : Nat} (hp : ∀ o, ops[i]? = some o → plainOp o.op = true) {a : Act} {K : Act → Prop} {K' : Act → World → Prop} (h : ∀ a, K a → K' a w) (hh : stOp P ops w i K a) : wpOpIn F m P ops Q i K' a w := by
  unfold stOp at hh
  unfold wpOpIn
  cases ho : ops[i]? with
  | none =>
    simp only [ho] at hh ⊢
    exact h _ hh
  | some o =>
    simp only [ho] at hh ⊢
    split
    · rename_i hw
      simp only [hw, if_true] at hh
      exact wpIn_of_still (hp o ho) h hh
    · rename_i hw
      simp only [hw] at hh
      exact ⟨fun f hf => (by rw [plain_about (hp o ho)] at hf; cases hf), h _ hh⟩
theorem wpAnyIn_of_head {md : Region.Mode} {n g : Nat} (hp : ∀ i o, i < n → ops[i]? = some o → plainOp o.op = true) {L : Array Bool → Act → Prop} (hL : ∀ listed a, L listed a → wpAnyIn F m P md ops Q g listed a w) :
    ∀ (f : Nat) (listed : Array Bool) (a : Act), wpAnyL P md ops w n L f listed a → wpAnyIn F m P md ops Q (f + g) listed a w
  | 0, listed, a, h => by rw [Nat.zero_add]; exact hL _ _ h
  | f + 1, listed, a, h => by
    rw [show f + 1 + g = (f + g) + 1 by omega]
    exact ⟨fun h0 => absurd h0 h.1, fun i hi => wpOpIn_of_stOp (fun o ho => hp i o (h.2 i hi).1 ho) (fun a' h' => wpAnyIn_of_head hp hL f _ a' h') (h.2 i hi).2⟩
theorem wpAnyIn_of_seq {md : Region.Mode} : ∀ (l : List Oper) (k : Nat) (listed : Array Bool) (a : Act) (w : World), (∀ j, l[j]? = ops[k + j]?) →
    Region.seqB md ops l.length k listed = true → wpListIn F m P ops Q l a w → wpAnyIn F m P md ops Q l.length listed a w
  | [], _, _, _, _, _, hB, h => ⟨by simpa [Region.seqB] using hB, h⟩
  | o :: l, k, listed, a, w, hl, hB, h => by
    have h0 : ops[k]? = some o := by simpa using (hl 0).symm
    simp only [List.length_cons, Region.seqB, Bool.and_eq_true, decide_eq_true_eq] at hB
    refine ⟨fun h1 => (by rw [hB.1] at h1; cases h1), fun i hi => ?_⟩
    rw [hB.1] at hi
    have hik : i = k := by simpa using hi
    subst hik
    have hw : wpOpIn F m P ops Q i (wpListIn F m P ops Q l) a w := by
      unfold wpOpIn
      simp only [h0]
      exact h
    exact wpOpIn_mono (fun a' w' h' => wpAnyIn_of_seq l (i + 1) _ a' w' (fun j => by have := hl (j + 1); simpa [Nat.add_assoc, Nat.add_comm 1 j] using this) hB.2 h') hw
theorem wpIn_region_tail {id : Nat} {a : Act} {l : List Oper} (n : Nat) (hm : P.follows .mixedOrders = true) (hB : Region.lexTailB .any l.toArray n = true) (hp : ∀ o ∈ l.take n, plainOp o.op = true)
    (h : wpStill P l.toArray w.drew (fun a' => wpListIn F m P l.toArray Q (l.drop n) a' w.drew) (l.take n) a) : (Code.region id l.toArray true).wpIn F m P Q a w := by
  simp only [Region.lexTailB, Bool.and_eq_true, decide_eq_true_eq] at hB
  obtain ⟨⟨⟨⟨hsel, hn⟩, hs⟩, hc⟩, hlex⟩ := hB
  have hn' : n < l.length := by simpa using hn
  have htl : (l.take n).length = n := by simp; omega
  have hdl : (l.drop n).length = l.toArray.size - n := by simp
  have inv0 : HeadInv .any l.toArray n (Array.replicate l.toArray.size false) :=
    ⟨by simp, fun j oj _ hl => (by rw [getD_replicate_false] at hl; cases hl), fun t _ ht => getD_in (by simpa using ht) (getD_replicate_false _ _)⟩
  have H := wpAnyL_lex (md := .any) (g := l.toArray.size - n) hsel hs hc hn (l.take n) 0 _ a (fun j hj => by
    have hj' : j < n := by rw [htl] at hj; exact hj
    simp [hj']) (by simpa using htl) inv0 (by rw [htl]; exact hlex) h
  refine wpIn_region_any hm ?_
  have hp' : ∀ i o, i < n → l.toArray[i]? = some o → plainOp o.op = true := fun i o hi ho => hp o (by
    have : (l.take n)[i]? = some o := by rw [List.getElem?_take_of_lt hi]; simpa using ho
    exact List.mem_of_getElem? this)
  have := wpAnyIn_of_head (F := F) (m := m) (Q := Q) (g := l.toArray.size - n) hp' (fun listed a' hL => by
    have := wpAnyIn_of_seq (F := F) (m := m) (md := .any) (Q := Q) (l.drop n) n listed a' w.drew (fun j => by simp [List.getElem?_drop]) (by rw [hdl]; exact hL.1) hL.2
    rwa [hdl] at this) _ _ _ H
  rw [htl, show n + (l.toArray.size - n) = l.toArray.size by omega] at this
  exact this
end
end Go.Proofs.YtnippamifihdpaaGreatDoor
namespace Go.Proofs.YtnippamifihdpaaGreatDoor
open Go Go.RowKit
set_option linter.unusedVariables false

section
variable {P : Program} {ops : Array Oper} {Q : Exit → Act → World → Prop} {md : Region.Mode} {S : World → Prop} {m : Nat}

/-- Whatever order is picked, S holds behind each operation ahead of the tail. -/
def wpAnyT (P : Program) (md : Region.Mode) (ops : Array Oper) (Q : Exit → Act → World → Prop) (S : World → Prop) (m : Nat) : Nat → Array Bool → Act → World → Prop
  | 0, listed, a, w => Region.ready md ops listed = [] ∧ Q .normal a w
  | f + 1, listed, a, w =>
    (Region.ready md ops listed = [] → Q .normal a w) ∧
    ∀ i ∈ Region.ready md ops listed, wpOp P ops Q i (fun a' w' => (i < m → S w') ∧ wpAnyT P md ops Q S m f (listed.setIfInBounds i true) a' w') a w

theorem wpAny_of_T : ∀ (f : Nat) (listed : Array Bool) (a : Act) (w : World), wpAnyT P md ops Q S m f listed a w → wpAny P md ops Q f listed a w
  | 0, _, _, _, h => h
  | f + 1, _, _, _, h => ⟨h.1, fun i hi => wpOp_mono (fun a' w' h' => wpAny_of_T f _ a' w' h'.2) (h.2 i hi)⟩

theorem T_of_any : ∀ (f : Nat) (listed : Array Bool) (a : Act) (w : World), (∀ k, k < m → listed.getD k true = true) → wpAny P md ops Q f listed a w → wpAnyT P md ops Q S m f listed a w
  | 0, _, _, _, _, h => h
  | f + 1, listed, a, w, hl, h => ⟨h.1, fun i hi => wpOp_mono (fun a' w' h' => ⟨fun him => (by
      have h1 := (mem_ready.1 hi).1
      have h2 := hl i him
      rw [h2] at h1; cases h1), T_of_any f _ a' w' (fun k hk => by
        by_cases hik : i = k
        · subst hik; have h1 := (mem_ready.1 hi).1; rw [hl i hk] at h1; cases h1
        · rw [getD_set_ne true hik]; exact hl k hk) h'⟩) (h.2 i hi)⟩

theorem wpAnyT_first {i : Nat} {oi : Oper} {v : Value} (hi : ops[i]? = some oi) (hsel : ∀ (j : Nat) (o : Oper) cs b, ops[j]? = some o → o.op ≠ .select cs b)
    (hQ : ∀ c a w, Q (.panic c) (a.put oi.dst v) w → Q (.panic c) a w) (hs : Region.sinkB md ops m = true) (hc : Region.chainB md ops m = true) (hn : m < ops.size) (him : i < m) :
    ∀ (f : Nat) (listed : Array Bool) (a : Act) (w : World), HeadInv md ops m listed →
      (∀ j oj, ops[j]? = some oj → j ≠ i → listed.getD j true = false → (∀ e ∈ oj.after, Region.binds md e = true → e.on ≠ i) → oi.apart ops oj = true) →
      i ∈ Region.ready md ops listed → YieldsIf P ops S oi v a → S w →
      wpAnyT P md ops Q S m f (listed.setIfInBounds i true) (a.put oi.dst v) w → wpAnyT P md ops Q S m (f + 1) listed a w := by
  intro f
  induction f with
  | zero =>
    intro listed a w _ _ hr hy hS H
    refine ⟨fun h => (by rw [h] at hr; cases hr), fun j hj => ?_⟩
    by_cases hji : j = i
    · subst hji; exact hy.wpOp hi hS ⟨fun _ => hS, H⟩
    · have := ready_mono hj hji
      rw [H.1] at this
      cases this
  | succ f ih =>
    intro listed a w inv hfree hr hy hS H
    have hun := (mem_ready.1 hr).1
    refine ⟨fun h => (by rw [h] at hr; cases hr), fun j hj => ?_⟩
    by_cases hji : j = i
    · subst hji; exact hy.wpOp hi hS ⟨fun _ => hS, H⟩
    · have hjm : j < m := by
        rcases Nat.lt_or_ge j m with h | h
        · exact h
        · exact absurd hj (tail_waits hs hc hn inv _ i rfl him hun j h)
      have h1 := H.2 j (ready_mono hj hji)
      obtain ⟨hjun, oj, hoj, hall⟩ := mem_ready.1 hj
      have hnot : ∀ e ∈ oj.after, Region.binds md e = true → e.on ≠ i := fun e he hb heq => by
        have h1 := hall e he hb
        rw [heq, getD_both hun] at h1
        cases h1
      have h2 := wpOp_putIf hoj (hfree j oj hoj hji hjun hnot) (fun cs b => hsel i oi cs b hi) (fun cs b => hsel j oj cs b hoj) hQ hy h1
      have hfree' : ∀ k ok, ops[k]? = some ok → k ≠ i → (listed.setIfInBounds j true).getD k true = false →
          (∀ e ∈ ok.after, Region.binds md e = true → e.on ≠ i) → oi.apart ops ok = true := fun k ok hk hki hun hno => by
        refine hfree k ok hk hki ?_ hno
        by_cases hjk : j = k
        · subst hjk; exact hjun
        · rw [getD_set_ne true hjk] at hun; exact hun
      refine wpOp_mono (fun a' w' h3 => ⟨h3.2.1, ih (listed.setIfInBounds j true) a' w' (inv.set hj hjm) hfree' (ready_mono hr (Ne.symm hji)) h3.1 (h3.2.1 hjm) ?_⟩) h2
      rw [Array.setIfInBounds_comm _ _ hji]
      exact h3.2.2

/-- The reads of a region, one behind the other, each taken first; then the tail. -/
def wpHeld (P : Program) (ops : Array Oper) (S : World → Prop) (K : Act → Prop) : List Oper → Act → Prop
  | [], a => K a
  | o :: l, a => ∃ v, YieldsIf P ops S o v a ∧ wpHeld P ops S K l (a.put o.dst v)

theorem wpHeld_cons {K : Act → Prop} {o : Oper} {l : List Oper} {a : Act} {v : Value} (h : YieldsIf P ops S o v a) (h2 : wpHeld P ops S K l (a.put o.dst v)) : wpHeld P ops S K (o :: l) a := ⟨v, h, h2⟩
theorem wpHeld_nil {K : Act → Prop} {a : Act} (h : K a) : wpHeld P ops S K [] a := h

theorem T_of_held {K : Act → Prop} (hsel : Region.noSelect ops = true) (hQ : ∀ c a a' w, Q (.panic c) a' w → Q (.panic c) a w) (hs : Region.sinkB md ops m = true) (hc : Region.chainB md ops m = true) (hn : m < ops.size) (g : Nat) {w : World} (hS : S w)
    (hK : ∀ a listed, HeadInv md ops m listed → (∀ j, j < ops.size - g → listed.getD j true = true) → Region.seqB md ops g (ops.size - g) listed = true → K a → wpAnyT P md ops Q S m g listed a w) :
    ∀ (l : List Oper) (k : Nat) (listed : Array Bool) (a : Act), (∀ j, j < l.length → l[j]? = ops[k + j]?) → k + l.length = ops.size - g → ops.size - g ≤ m → HeadInv md ops m listed → (∀ j, j < k → listed.getD j true = true) →
      Region.lexHead md ops g l.length k listed = true → wpHeld P ops S K l a → wpAnyT P md ops Q S m (l.length + g) listed a w
  | [], k, listed, a, _, hk, _, inv, hL, hB, h => by
    have : k = ops.size - g := by simpa using hk
    rw [List.length_nil, Nat.zero_add]
    refine hK a listed inv (by rw [← this]; exact hL) ?_ h
    rw [← this]
    simpa [Region.lexHead] using hB
  | o :: l, k, listed, a, hl, hk, hm, inv, hL, hB, h => by
    have h0 : ops[k]? = some o := by simpa using (hl 0 (by simp)).symm
    simp only [List.length_cons, Region.lexHead, Bool.and_eq_true] at hB
    obtain ⟨⟨hr, hf⟩, hB'⟩ := hB
    obtain ⟨v, hy, h⟩ := h
    have hr' : k ∈ Region.ready md ops listed := by simpa using hr
    have hkm : k < m := by simp at hk; omega
    rw [List.length_cons, show l.length + 1 + g = (l.length + g) + 1 by omega]
    refine wpAnyT_first h0 (Region.noSelect_spec hsel) (fun c a w => hQ c a _ w) hs hc hn hkm _ listed a w inv (Region.free_spec h0 hf) hr' hy hS ?_
    exact T_of_held hsel hQ hs hc hn g hS hK l (k + 1) _ _ (fun j hj => by have := hl (j + 1) (by simp; omega); simpa [Nat.add_assoc, Nat.add_comm 1 j] using this) (by simp at hk; omega) hm (inv.set hr' hkm) (fun j hj => by
      by_cases hkj : k = j
      · subst hkj
        have : k < listed.size := by rw [inv.size]; omega
        simp [this]
      · rw [getD_set_ne true hkj]; exact hL j (by omega)) hB' h

def noDefer (ops : Array Oper) : Bool := ops.all fun o => match o.op with | .defer _ => false | _ => true
theorem noDefer_spec (h : noDefer ops = true) {i : Nat} {o : Oper} (hi : ops[i]? = some o) : ∀ c, o.op ≠ .defer c := by
  intro c hc
  have := Array.all_eq_true'.1 h o (Array.mem_of_getElem? hi)
  rw [hc] at this
  cases this

theorem rowsIn_of {row : String} {args : Array Value} {w : World} {R : Value → World → Prop} (n l : Nat) (h : Rows P row args w R) : RowsIn (Fence.wide.inRound l) n P row args w R :=
  fun c cs _ => let ⟨v, w', r, s⟩ := h c cs; ⟨v, w', r, (stepsIn_wide (P := P)).2 s⟩

theorem wpOpIn_of_any {n l i : Nat} (hd : noDefer ops = true) (hQ : ¬ LetsOut Q) {a : Act} {w : World} {K : Act → World → Prop} (h : wpOp P ops Q i K a w) : wpOpIn (Fence.wide.inRound l) n P ops Q i K a w := by
  unfold wpOp at h
  unfold wpOpIn
  cases ho : ops[i]? with
  | none => simp only [ho] at h ⊢; exact h
  | some o =>
    simp only [ho] at h ⊢
    split
    · rename_i hw
      simp only [hw, if_true] at h
      have h := h.resolve_right fun h => hQ h.2
      refine ⟨fun _ _ => trivial, ?_⟩
      rw [Oper.semAt_plain _ _ _ (noDefer_spec hd ho)]
      unfold Oper.wp at h
      generalize (execOp a.eval o).run P w = r at h ⊢
      cases r with
      | ok nx w' =>
        cases nx with
        | value v => exact h
        | skip => exact h
        | defer d => exact h
        | enter f args => exact ⟨fun hh => (by cases hh), (callsIn_wide (n := n - 1)).2 h⟩
        | row row args => exact ⟨fun hh => (by cases hh), rowsIn_of _ _ h⟩
        | _ => exact h.elim
      | halt hh w' =>
        cases hh with
        | panic v => exact h
        | _ => exact h.elim
    · rename_i hw
      simp only [hw] at h
      exact ⟨fun _ _ => trivial, h⟩

theorem wpAnyIn_of_any {n l : Nat} (hd : noDefer ops = true) (hQ : ¬ LetsOut Q) : ∀ (f : Nat) (listed : Array Bool) (a : Act) (w : World), wpAny P md ops Q f listed a w → wpAnyIn (Fence.wide.inRound l) n P md ops Q f listed a w
  | 0, _, _, _, h => h
  | f + 1, _, _, _, h => ⟨h.1, fun i hi => wpOpIn_mono (fun a' w' h' => wpAnyIn_of_any hd hQ f _ a' w' h') (wpOpIn_of_any hd hQ (h.2 i hi))⟩

/-- A region in a round: reads under S, then operation k, which keeps S, then the tail. -/
theorem wpIn_region_held {n l id : Nat} {l0 : List Oper} {a : Act} {w : World} (k : Nat) (hm : P.follows .mixedOrders = true) (hd : noDefer l0.toArray = true) (hLo : ¬ LetsOut Q) (hQ : ∀ c a a' w, Q (.panic c) a' w → Q (.panic c) a w)
    (hsel : Region.noSelect l0.toArray = true) (hs : Region.sinkB .any l0.toArray (k + 1) = true) (hc : Region.chainB .any l0.toArray (k + 1) = true) (hn : k + 1 < l0.length)
    (hlex : Region.lexHead .any l0.toArray (l0.length - k) k 0 (Array.replicate l0.length false) = true) (hS : S w.drew)
    (h : wpHeld P l0.toArray S (fun a' => wpOp P l0.toArray Q k (fun a'' w'' => S w'' ∧ wpList P l0.toArray Q (l0.drop (k + 1)) a'' w'') a' w.drew) (l0.take k) a) :
    (Code.region id l0.toArray true).wpIn (Fence.wide.inRound l) n P Q a w := by
  refine wpIn_region_any hm ?_
  refine wpAnyIn_of_any hd hLo _ _ _ _ ?_
  refine wpAny_of_T (S := S) (m := k + 1) _ _ _ _ ?_
  have hsz : l0.toArray.size = l0.length := by simp
  have htk : (l0.take k).length = k := by simp; omega
  have e : l0.toArray.size = (l0.take k).length + (l0.length - k) := by rw [htk, hsz]; omega
  rw [e]
  have inv0 : HeadInv .any l0.toArray (k + 1) (Array.replicate l0.length false) :=
    ⟨by simp, fun j oj _ hl => (by rw [getD_replicate_false] at hl; cases hl), fun t _ ht => getD_in (by simpa using ht) (getD_replicate_false _ _)⟩
  rw [show (l0.take k).length + (l0.length - k) = l0.length by omega]
  have H := T_of_held (md := .any) (Q := Q) (S := S) (m := k + 1) (ops := l0.toArray) (P := P) hsel hQ hs hc (by rw [hsz]; exact hn) (l0.length - k) hS (K := fun a' => wpOp P l0.toArray Q k (fun a'' w'' => S w'' ∧ wpList P l0.toArray Q (l0.drop (k + 1)) a'' w'') a' w.drew)
    (fun a' listed inv hL hq hk => by
      rw [hsz, show l0.length - (l0.length - k) = k by omega] at hq
      obtain ⟨g, hg⟩ : ∃ g, l0.length - k = g + 1 := ⟨l0.length - k - 1, by omega⟩
      rw [hg] at hq ⊢
      simp only [Region.seqB, Bool.and_eq_true, decide_eq_true_eq] at hq
      refine ⟨fun h0 => (by rw [hq.1] at h0; cases h0), fun i hi => ?_⟩
      rw [hq.1] at hi
      have hik : i = k := by simpa using hi
      subst hik
      refine wpOp_mono (fun a'' w'' h'' => ⟨fun _ => h''.1, T_of_any g _ a'' w'' ?_ ?_⟩) hk
      · intro j hj
        rw [hsz, show l0.length - (l0.length - i) = i by omega] at hL
        by_cases hij : i = j
        · subst hij
          have : i < listed.size := by rw [inv.size, hsz]; omega
          simp [this]
        · rw [getD_set_ne true hij]; exact hL j (by omega)
      · have := wpAny_of_seq (md := .any) (P := P) (Q' := Q) (ops := l0.toArray) (l0.drop (i + 1)) (i + 1) (listed.setIfInBounds i true) a'' w'' (fun j => by simp [List.getElem?_drop]) (by rw [List.length_drop, show l0.length - (i + 1) = g by omega]; exact hq.2) h''.2
        rwa [List.length_drop, show l0.length - (i + 1) = g by omega] at this)
    (l0.take k) 0 _ a (fun j hj => by rw [htk] at hj; simp [hj]) (by rw [htk, hsz]; omega) (by rw [hsz]; omega) inv0 (fun j hj => absurd hj (by omega)) (by rw [htk]; exact hlex) h
  rw [htk, show k + (l0.length - k) = l0.length by omega] at H
  exact H
end
end Go.Proofs.YtnippamifihdpaaGreatDoor
