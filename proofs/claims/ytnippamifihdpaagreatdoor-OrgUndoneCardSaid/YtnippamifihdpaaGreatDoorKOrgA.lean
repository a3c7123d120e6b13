/- An organisation in memory. org: user, role, done, set, loan. org: Join, Leave. org: Rest, Wake. org: Grant, Revoke, Bar, Unbar. org: User, Role. -/
import Derived.Test.YtnippamifihdpaaGreatDoorKAllA
import Derived.Test.YtnippamifihdpaaGreatDoorKAllB
import Derived.Test.YtnippamifihdpaaGreatDoorKRank
import Derived.Test.YtnippamifihdpaaGreatDoorKAg3
namespace Go.Proofs.YtnippamifihdpaaGreatDoor
open Go Go.RowKit
set_option linter.unusedVariables false

/-- What is known of a user. -/
structure UserS where
  roles : Nat
  bars : List ByteArray
  rests : Bool
/-- An organisation. -/
structure OrgS where
  un : List ByteArray
  uk : List (Option UserS)
  rn : List ByteArray
  rk : List (Option (List ByteArray))
  J : Nat → Nat
  es : List Ent
  turns : Nat
  now : Nat
  ep : Nat
/-- Its bounds. -/
structure OrgS.Ok (S : OrgS) : Prop where
  es : S.es.length ≤ S.ep
  turns : S.turns ≤ S.ep
  bars : ∀ u : UserS, some u ∈ S.uk → u.bars.length ≤ S.ep
  duties : ∀ d : List ByteArray, some d ∈ S.rk → d.length ≤ S.ep
  now1 : 1 ≤ S.now
  now2 : S.now ≤ 1000000000

def UserAt (w : World) (own : Own) (i b : Nat) (u : UserS) : Prop :=
  own b = some (.item false i) ∧ u.roles < 18446744073709551616 ∧ ∃ m, Blk w b #[.int .u64 u.roles, .map (some m), .bool u.rests] 108 ∧ own m = some (.set false i) ∧ SetAt w m u.bars
def RoleAt (w : World) (own : Own) (i b : Nat) (d : List ByteArray) : Prop :=
  own b = some (.item true i) ∧ ∃ m, Blk w b #[.map (some m)] 113 ∧ own m = some (.set true i) ∧ SetAt w m d
/-- What is known by number: its blocks and what they hold. -/
structure Items {α : Type} (P : Nat → Nat → α → Prop) (kb : List (Option Nat)) (ks : List (Option α)) : Prop where
  len : kb.length = ks.length
  some_ : ∀ (i b : Nat), kb[i]? = some (some b) → ∃ u, ks[i]? = some (some u) ∧ P i b u
  none_ : ∀ (i : Nat), kb[i]? = some none → ks[i]? = some none

section
variable {α : Type} {P P' : Nat → Nat → α → Prop} {kb : List (Option Nat)} {ks : List (Option α)}
theorem Items.mono (h : Items P kb ks) (hp : ∀ i b u, kb[i]? = some (some b) → P i b u → P' i b u) : Items P' kb ks :=
  ⟨h.len, fun i b hb => let ⟨u, h1, h2⟩ := h.some_ i b hb; ⟨u, h1, hp i b u hb h2⟩, h.none_⟩
/-- A number's item made, or made anew. -/
theorem Items.set (h : Items P kb ks) {i b : Nat} {u : α} (hi : i < kb.length) (hu : P' i b u) (hp : ∀ j c v, j ≠ i → kb[j]? = some (some c) → P j c v → P' j c v) : Items P' (kb.set i (some b)) (ks.set i (some u)) := by
  have hl := h.len
  refine ⟨by simp [hl], fun j c hc => ?_, fun j hc => ?_⟩
  · by_cases hj : i = j
    · subst hj
      rw [List.getElem?_set_self hi] at hc
      injection hc with hc
      injection hc with hc
      subst hc
      exact ⟨u, by rw [List.getElem?_set_self (by omega)], hu⟩
    · rw [List.getElem?_set_ne hj] at hc
      obtain ⟨v, h1, h2⟩ := h.some_ j c hc
      exact ⟨v, by rw [List.getElem?_set_ne hj]; exact h1, hp j c v (Ne.symm hj) hc h2⟩
  · by_cases hj : i = j
    · subst hj
      rw [List.getElem?_set_self hi] at hc
      cases hc
    · rw [List.getElem?_set_ne hj] at hc ⊢
      exact h.none_ j hc
/-- An item changed where it lies. -/
theorem Items.upd (h : Items P kb ks) {i b : Nat} {u : α} (hb : kb[i]? = some (some b)) (hu : P' i b u) (hp : ∀ j c v, j ≠ i → kb[j]? = some (some c) → P j c v → P' j c v) : Items P' kb (ks.set i (some u)) := by
  have hi := (List.getElem?_eq_some_iff.1 hb).1
  have h2 := h.set (u := u) hi hu hp
  have : kb.set i (some b) = kb := by
    refine List.ext_getElem? fun j => ?_
    by_cases hj : i = j
    · subst hj; rw [List.getElem?_set_self hi, hb]
    · rw [List.getElem?_set_ne hj]
  rw [this] at h2
  exact h2
/-- An item gone. -/
theorem Items.drop (h : Items P kb ks) {i : Nat} (hp : ∀ j c v, j ≠ i → kb[j]? = some (some c) → P j c v → P' j c v) : Items P' (kb.set i none) (ks.set i none) := by
  have hl := h.len
  refine ⟨by simp [hl], fun j c hc => ?_, fun j hc => ?_⟩
  · by_cases hj : i = j
    · subst hj
      rw [List.getElem?_set] at hc
      simp at hc
    · rw [List.getElem?_set_ne hj] at hc
      obtain ⟨v, h1, h2⟩ := h.some_ j c hc
      exact ⟨v, by rw [List.getElem?_set_ne hj]; exact h1, hp j c v (Ne.symm hj) hc h2⟩
  · by_cases hj : i = j
    · subst hj
      rw [List.getElem?_set] at hc ⊢
      simp only [if_true] at hc ⊢
      split at hc
      · rw [if_pos (by omega)]
      · cases hc
    · rw [List.getElem?_set_ne hj] at hc ⊢
      exact h.none_ j hc
/-- A new number. -/
theorem Items.push (h : Items P kb ks) {b : Nat} {u : α} (hu : P' kb.length b u) (hp : ∀ j c v, kb[j]? = some (some c) → P j c v → P' j c v) : Items P' (kb ++ [some b]) (ks ++ [some u]) := by
  have hl := h.len
  refine ⟨by simp [hl], fun j c hc => ?_, fun j hc => ?_⟩
  · by_cases hj : j < kb.length
    · rw [List.getElem?_append_left hj] at hc
      obtain ⟨v, h1, h2⟩ := h.some_ j c hc
      exact ⟨v, by rw [List.getElem?_append_left (by omega)]; exact h1, hp j c v hc h2⟩
    · have hj2 : j = kb.length := by
        have := (List.getElem?_eq_some_iff.1 hc).1
        simp at this
        omega
      subst hj2
      simp at hc
      subst hc
      exact ⟨u, by rw [hl]; simp, hu⟩
  · by_cases hj : j < kb.length
    · rw [List.getElem?_append_left hj] at hc
      rw [List.getElem?_append_left (by omega)]
      exact h.none_ j hc
    · have hj2 : j = kb.length := by
        have := (List.getElem?_eq_some_iff.1 hc).1
        simp at this
        omega
      subst hj2
      simp at hc
end

theorem UserAt.fr {S : Nat → Prop} {w w' : World} {own own' : Own} {i b : Nat} {u : UserS} (h : UserAt w own i b u) (k : Fr S w w') (hS : ∀ c t, own c = some t → t = .item false i ∨ t = .set false i → ¬ S c)
    (ho : ∀ c t, own c = some t → own' c = some t) : UserAt w' own' i b u := by
  obtain ⟨h1, h2, m, h3, h4, h5⟩ := h
  exact ⟨ho _ _ h1, h2, m, h3.fr k (hS b _ h1 (.inl rfl)), ho _ _ h4, h5.fr k (hS m _ h4 (.inr rfl))⟩
theorem RoleAt.fr {S : Nat → Prop} {w w' : World} {own own' : Own} {i b : Nat} {d : List ByteArray} (h : RoleAt w own i b d) (k : Fr S w w') (hS : ∀ c t, own c = some t → t = .item true i ∨ t = .set true i → ¬ S c)
    (ho : ∀ c t, own c = some t → own' c = some t) : RoleAt w' own' i b d := by
  obtain ⟨h1, m, h3, h4, h5⟩ := h
  exact ⟨ho _ _ h1, m, h3.fr k (hS b _ h1 (.inl rfl)), ho _ _ h4, h5.fr k (hS m _ h4 (.inr rfl))⟩
structure OrgG (w : World) (own : Own) (p : Nat) (S : OrgS) (mU nU kU mR nR kR : Value) (br pa : Nat) (ub rb : List (Option Nat)) (D : Nat → Prop) : Prop where
  blk : Blk w p #[mU, nU, kU, .int .i64 64, mR, nR, kR, .int .i64 64, ptr br, ptr pa, .int .i64 S.now, .int .u64 S.ep] 103
  op : own p = some .org
  ru : RegAt w own false 109 mU nU kU S.un ub
  rr : RegAt w own true 114 mR nR kR S.rn rb
  us : Items (UserAt w own) ub S.uk
  rs : Items (RoleAt w own) rb S.rk
  rk : RankAt w br S.J
  ork : own br = some .rank
  ag : Ag w pa S.es S.turns D
  oag : ∀ b, D b → own b = some .loans
  lt : ∀ c t, own c = some t → c < w.heap.size
  otab : own 6 = none
  tab : Tab w
/-- An organisation at a block. -/
def OrgAt (w : World) (own : Own) (p : Nat) (S : OrgS) : Prop := ∃ mU nU kU mR nR kR br pa ub rb D, OrgG w own p S mU nU kU mR nR kR br pa ub rb D

section
variable {w w' : World} {own own' : Own} {p : Nat} {S : OrgS} {mU nU kU mR nR kR : Value} {br pa : Nat} {ub rb : List (Option Nat)} {D : Nat → Prop}
theorem OrgG.fr {X : Nat → Prop} (h : OrgG w own p S mU nU kU mR nR kR br pa ub rb D) (k : Fr X w w') (hX : ∀ c t, own c = some t → ¬ X c) (ht : ¬ X 6) : OrgG w' own p S mU nU kU mR nR kR br pa ub rb D :=
  ⟨h.blk.fr k (hX _ _ h.op), h.op, h.ru.fr k fun b t hb _ => hX b t hb, h.rr.fr k fun b t hb _ => hX b t hb,
    h.us.mono fun i b u _ hu => hu.fr k (fun c t hc _ => hX c t hc) fun _ _ h => h, h.rs.mono fun i b u _ hu => hu.fr k (fun c t hc _ => hX c t hc) fun _ _ h => h,
    h.rk.fr k (hX _ _ h.ork), h.ork, h.ag.fr k fun b hb => hX _ _ (h.oag b hb), h.oag, fun c t hc => Nat.lt_of_lt_of_le (h.lt c t hc) k.size, h.otab, h.tab.fr k ht⟩
theorem OrgG.ext (h : OrgG w own p S mU nU kU mR nR kR br pa ub rb D) (k : Ext w w') : OrgG w' own p S mU nU kU mR nR kR br pa ub rb D := h.fr k (fun _ _ _ => id) id
theorem OrgAt.fr {X : Nat → Prop} (h : OrgAt w own p S) (k : Fr X w w') (hX : ∀ c t, own c = some t → ¬ X c) (ht : ¬ X 6) : OrgAt w' own p S := by
  obtain ⟨mU, nU, kU, mR, nR, kR, br, pa, ub, rb, D, g⟩ := h
  exact ⟨mU, nU, kU, mR, nR, kR, br, pa, ub, rb, D, g.fr k hX ht⟩
theorem OrgAt.ext (h : OrgAt w own p S) (k : Ext w w') : OrgAt w' own p S := h.fr k (fun _ _ _ => id) id
end

/-- A user, a role by name. -/
def OrgS.findU (S : OrgS) (name : ByteArray) : Option (Nat × UserS) := if name ∈ S.un then (S.uk.getD (S.un.idxOf name) none).map fun u => (S.un.idxOf name, u) else none
def OrgS.findR (S : OrgS) (name : ByteArray) : Option (Nat × List ByteArray) := if name ∈ S.rn then (S.rk.getD (S.rn.idxOf name) none).map fun u => (S.rn.idxOf name, u) else none
theorem items_find {α : Type} {P : Nat → Nat → α → Prop} {names : List ByteArray} {kb : List (Option Nat)} {ks : List (Option α)} (h : Items P kb ks) (hl : kb.length = names.length) (name : ByteArray) :
    (∃ i b u, regFind names kb name = some (i, b) ∧ (if name ∈ names then (ks.getD (names.idxOf name) none).map fun u => (names.idxOf name, u) else none) = some (i, u) ∧ P i b u ∧ kb[i]? = some (some b) ∧ ks[i]? = some (some u) ∧ i < names.length) ∨
    (regFind names kb name = none ∧ (if name ∈ names then (ks.getD (names.idxOf name) none).map fun u => (names.idxOf name, u) else none) = none) := by
  unfold regFind
  by_cases hin : name ∈ names
  · rw [if_pos hin, if_pos hin]
    have hlt := idxOf_lt hin
    obtain ⟨x, hx⟩ : ∃ x, kb[names.idxOf name]? = some x := ⟨kb[names.idxOf name]'(by omega), List.getElem?_eq_getElem (by omega)⟩
    cases x with
    | none => right; rw [List.getD_eq_getElem?_getD, List.getD_eq_getElem?_getD, hx, h.none_ _ hx]; exact ⟨rfl, rfl⟩
    | some b =>
      left
      obtain ⟨u, hu, hP⟩ := h.some_ _ _ hx
      refine ⟨names.idxOf name, b, u, ?_, ?_, hP, hx, hu, hlt⟩
      · rw [List.getD_eq_getElem?_getD, hx]; rfl
      · rw [List.getD_eq_getElem?_getD, hu]; rfl
  · right
    rw [if_neg hin, if_neg hin]
    exact ⟨rfl, rfl⟩
end Go.Proofs.YtnippamifihdpaaGreatDoor
namespace Go.Proofs.YtnippamifihdpaaGreatDoor
open Go Go.RowKit
set_option linter.unusedVariables false

section
variable {w : World} {own : Own} {p : Nat} {S : OrgS} {mU nU kU mR nR kR : Value} {br pa : Nat} {ub rb : List (Option Nat)} {D : Nat → Prop}

theorem OrgG.getU (h : OrgG w own p S mU nU kU mR nR kR br pa ub rb D) (name : ByteArray) :
    Calls Tryz.prog 79 #[.pointer (some ⟨p, 0, none⟩), .string name] w fun e w' => e = .returned (getV (regFind S.un ub name)) ∧ Ext w w' :=
  getU_any w own p mU nU kU S.un ub name h.ru ((h.blk.cell 0).trans rfl) ((h.blk.cell 2).trans rfl)
theorem OrgG.getR (h : OrgG w own p S mU nU kU mR nR kR br pa ub rb D) (name : ByteArray) :
    Calls Tryz.prog 153 #[.pointer (some ⟨p, 4, none⟩), .string name] w fun e w' => e = .returned (getV (regFind S.rn rb name)) ∧ Ext w w' :=
  getR_any w own p mR nR kR S.rn rb name h.rr ((h.blk.cell 4).trans rfl) ((h.blk.cell 6).trans rfl)

set_option maxHeartbeats 1000000 in
theorem OrgG.user_hit (h : OrgG w own p S mU nU kU mR nR kR br pa ub rb D) {name : ByteArray} {i b : Nat} (hf : regFind S.un ub name = some (i, b)) :
    Calls Tryz.prog 66 #[ptr p, .string name] w fun e w' => e = .returned (.tuple #[.int .i64 i, ptr b, .int .i64 0]) ∧ Ext w w' := by
  have hg := h.getU name
  rw [hf] at hg
  clear h hf
  dsimp only [getV] at hg
  go_enter Tryz.func66, Tryz.ntmps66
  go_wp2_with (go_at_call 79; refine hg.mono ?_; rintro r w1 ⟨rfl, hE⟩; have HE := hid hE; clear hE)
  go_ret3
  exact ⟨rfl, HE.out⟩
set_option maxHeartbeats 1000000 in
theorem OrgG.user_miss (h : OrgG w own p S mU nU kU mR nR kR br pa ub rb D) {name : ByteArray} (hf : regFind S.un ub name = none) :
    Calls Tryz.prog 66 #[ptr p, .string name] w fun e w' => ∃ b, e = .returned (.tuple #[.int .i64 0, ptr b, .int .i64 20]) ∧ Blk w' b #[.int .u64 0, .map none, .bool false] 108 ∧ Ext w w' ∧ w.heap.size ≤ b := by
  have hg := h.getU name
  rw [hf] at hg
  clear h hf
  dsimp only [getV] at hg
  go_enter Tryz.func66, Tryz.ntmps66
  go_wp2_with (go_at_call 79; refine hg.mono ?_; rintro r w1 ⟨rfl, hE⟩; have HE := hid hE; clear hE)
  go_ret3
  exact ⟨_, rfl, Blk.new _ _ _, HE.out.alloc _, HE.out.size⟩
set_option maxHeartbeats 1000000 in
theorem OrgG.role_hit (h : OrgG w own p S mU nU kU mR nR kR br pa ub rb D) {name : ByteArray} {i b : Nat} (hf : regFind S.rn rb name = some (i, b)) :
    Calls Tryz.prog 62 #[ptr p, .string name] w fun e w' => e = .returned (.tuple #[.int .i64 i, ptr b, .int .i64 0]) ∧ Ext w w' := by
  have hg := h.getR name
  rw [hf] at hg
  clear h hf
  dsimp only [getV] at hg
  go_enter Tryz.func62, Tryz.ntmps62
  go_wp2_with (go_at_call 153; refine hg.mono ?_; rintro r w1 ⟨rfl, hE⟩; have HE := hid hE; clear hE)
  go_ret3
  exact ⟨rfl, HE.out⟩
set_option maxHeartbeats 1000000 in
theorem OrgG.role_miss (h : OrgG w own p S mU nU kU mR nR kR br pa ub rb D) {name : ByteArray} (hf : regFind S.rn rb name = none) :
    Calls Tryz.prog 62 #[ptr p, .string name] w fun e w' => ∃ b, e = .returned (.tuple #[.int .i64 0, ptr b, .int .i64 21]) ∧ Blk w' b #[.map none] 113 ∧ Ext w w' ∧ w.heap.size ≤ b := by
  have hg := h.getR name
  rw [hf] at hg
  clear h hf
  dsimp only [getV] at hg
  go_enter Tryz.func62, Tryz.ntmps62
  go_wp2_with (go_at_call 153; refine hg.mono ?_; rintro r w1 ⟨rfl, hE⟩; have HE := hid hE; clear hE)
  go_ret3
  exact ⟨_, rfl, Blk.new _ _ _, HE.out.alloc _, HE.out.size⟩
end

theorem set_any (s : Nat) (w : World) : Calls Tryz.prog 64 #[.int .u64 s] w fun e w' => e = .returned (.agg #[.int .u64 s]) ∧ Ext w w' := by
  go_enter Tryz.func64, Tryz.ntmps64
  go_wp2_with (go_at_call 154; refine (of_any s 0 _).mono ?_; rintro r w' ⟨rfl, hE⟩; obtain ⟨hc, _hf⟩ := hE.cells; have HE := hid hE; clear hE)
  have h0 : w'.cell? ⟨w.heap.size, 0, none⟩ = some (.int .u64 0) := (hc w.heap.size 0 (by simp)).trans (by simp)
  have h1 := World.cell?_setCell_same' w' ⟨w.heap.size, 0, none⟩ (.int .u64 (s : Int)) (by rw [h0]; rfl)
  refine bodyPost_ret (v := .agg #[.int .u64 (s : Int)]) (by simp [results, Tryz.results64, go_sem, h1]) rfl ?_
  exact ⟨rfl, HE.out.of_alloc.setCell (.inr (by simp)) _⟩
theorem loan_any (a b : Nat) (w : World) (ha : a < 64) (hb : b < 64) : Calls Tryz.prog 71 #[.int .i64 a, .int .i64 b] w fun e w' => e = .returned (.int .i64 ((a * 64 + b : Nat) : Int)) ∧ w = w' := by
  go_enter Tryz.func71, Tryz.ntmps71
  go_wp2_with fail
  go_ret
  exact ⟨ret_int (by omega), rfl⟩
/-- done at a code that is none. -/
theorem done_bad (p : Nat) (c : Nat) (w : World) (hc : c ≠ 0) : Calls Tryz.prog 59 #[ptr p, .int .i64 c] w fun e w' => e = .returned (.int .i64 c) ∧ w = w' := by
  have h1 : ((c : Int) == 0) = false := by rw [beq_eq_false_iff_ne]; omega
  go_enter Tryz.func59, Tryz.ntmps59
  go_wp2_with fail
  go_ret
  exact ⟨rfl, rfl⟩
theorem done_ok (p ep : Nat) (cs : Array Value) (w : World) (hp : Blk w p cs 103) (h11 : cs[11]? = some (.int .u64 ep)) (hep : ep < 1000000) : Calls Tryz.prog 59 #[ptr p, .int .i64 0] w fun e w' => e = .returned (.int .i64 0) ∧ Blk w' p (cs.setIfInBounds 11 (.int .u64 ((ep + 1 : Nat) : Int))) 103 ∧ Fr (fun c => c = p) w w' := by
  have c11 := (hp.cell 11).trans h11
  have f11 := hp.frozen 11
  have HP := hid hp
  clear hp h11
  go_enter Tryz.func59, Tryz.ntmps59
  go_wp2_with fail
  go_ret
  have e1 : ((ep : Int) + 1) = ((ep + 1 : Nat) : Int) := by omega
  rw [e1]
  exact ⟨rfl, HP.out.setCell 11 _, (Fr.refl (fun c => c = p) w).setCell (p := ⟨p, 11, none⟩) (.inl rfl) _⟩

section
variable {w : World} {own : Own} {p : Nat} {S : OrgS} {mU nU kU mR nR kR : Value} {br pa : Nat} {ub rb : List (Option Nat)} {D : Nat → Prop}

theorem regFind_lt {names : List ByteArray} {kb : List (Option Nat)} {name : ByteArray} {i b : Nat} (h : regFind names kb name = some (i, b)) : i < names.length := by
  unfold regFind at h
  split at h
  · rename_i hin
    obtain ⟨x, _, hx⟩ := Option.map_eq_some_iff.1 h
    injection hx with hx _
    rw [← hx]
    exact idxOf_lt hin
  · cases h

set_option maxHeartbeats 2000000 in
theorem OrgG.member_hit (h : OrgG w own p S mU nU kU mR nR kR br pa ub rb D) {a c : ByteArray} {i b j d : Nat} (hf : regFind S.un ub a = some (i, b)) (hr : regFind S.rn rb c = some (j, d)) :
    Calls Tryz.prog 61 #[ptr p, .string a, .string c] w fun e w' => e = .returned (.tuple #[ptr b, .int .u64 ((2 ^ j : Nat) : Int), .int .i64 0]) ∧ Ext w w' := by
  have hj : j < 64 := Nat.lt_of_lt_of_le (regFind_lt hr) h.rr.le
  have HW := hid (wrap_pow j hj)
  have hu := h.user_hit hf
  have HR := hid fun W (hE : Ext w W) => (h.ext hE).role_hit hr
  clear h hf hr
  have hj0 : (0 : Int) ≤ j := by omega
  have hj1 : (j : Int) < 64 := by omega
  go_enter Tryz.func61, Tryz.ntmps61
  go_wp2_with (first | (go_at_call 66; refine hu.mono ?_; rintro r w1 ⟨rfl, hE⟩; have HE := hid hE; clear hE) | (go_at_call 62; refine (HR.out _ HE.out).mono ?_; rintro r w2 ⟨rfl, hE2⟩; have HE2 := hid hE2; clear hE2) | go_quiet (fail))
  go_ret3
  exact ⟨by rw [← HW.out]; rfl, (HE.out.trans HE2.out).drewN _⟩
/-- The code where a user or a role is not known. -/
theorem OrgG.member_miss (h : OrgG w own p S mU nU kU mR nR kR br pa ub rb D) {a c : ByteArray} (hm : regFind S.un ub a = none ∨ regFind S.rn rb c = none) :
    Calls Tryz.prog 61 #[ptr p, .string a, .string c] w fun e w' => (∃ x y, e = .returned (.tuple #[x, y, .int .i64 ((if regFind S.un ub a = none then 20 else 21 : Nat) : Int)])) ∧ Ext w w' := by
  have hrr := h.rr.le
  cases hu : regFind S.un ub a with
  | none =>
    rw [if_pos rfl]
    have hu2 := h.user_miss hu
    cases hr : regFind S.rn rb c with
    | none =>
      have HR := hid fun W (hE : Ext w W) => (h.ext hE).role_miss hr
      clear h hu hr hm
      go_enter Tryz.func61, Tryz.ntmps61
      go_wp2_with (first | (go_at_call 66; refine hu2.mono ?_; rintro r w1 ⟨b, rfl, hb, hE, hbl⟩; have HE := hid hE; clear hE) | (go_at_call 62; refine (HR.out _ HE.out).mono ?_; rintro r w2 ⟨b2, rfl, hb2, hE2, hbl2⟩; have HE2 := hid hE2; clear hE2) | go_quiet (fail))
      go_ret3
      exact ⟨⟨_, _, rfl⟩, (HE.out.trans HE2.out).drewN _⟩
    | some q =>
      obtain ⟨j, d⟩ := q
      have hj : j < 64 := Nat.lt_of_lt_of_le (regFind_lt hr) hrr
      have hj0 : (0 : Int) ≤ j := by omega
      have hj1 : (j : Int) < 64 := by omega
      have HR := hid fun W (hE : Ext w W) => (h.ext hE).role_hit hr
      clear h hu hr hm
      go_enter Tryz.func61, Tryz.ntmps61
      go_wp2_with (first | (go_at_call 66; refine hu2.mono ?_; rintro r w1 ⟨b, rfl, hb, hE, hbl⟩; have HE := hid hE; clear hE) | (go_at_call 62; refine (HR.out _ HE.out).mono ?_; rintro r w2 ⟨rfl, hE2⟩; have HE2 := hid hE2; clear hE2) | go_quiet (fail))
      go_ret3
      exact ⟨⟨_, _, rfl⟩, (HE.out.trans HE2.out).drewN _⟩
  | some q =>
    obtain ⟨i, b⟩ := q
    rw [if_neg (by simp)]
    have hr : regFind S.rn rb c = none := by
      rcases hm with hm | hm
      · rw [hu] at hm; cases hm
      · exact hm
    have hu2 := h.user_hit hu
    have HR := hid fun W (hE : Ext w W) => (h.ext hE).role_miss hr
    clear h hu hr hm
    go_enter Tryz.func61, Tryz.ntmps61
    go_wp2_with (first | (go_at_call 66; refine hu2.mono ?_; rintro r w1 ⟨rfl, hE⟩; have HE := hid hE; clear hE) | (go_at_call 62; refine (HR.out _ HE.out).mono ?_; rintro r w2 ⟨b2, rfl, hb2, hE2, hbl2⟩; have HE2 := hid hE2; clear hE2) | go_quiet (fail))
    go_ret3
    exact ⟨⟨_, _, rfl⟩, (HE.out.trans HE2.out).drewN _⟩
end
end Go.Proofs.YtnippamifihdpaaGreatDoor
namespace Go.Proofs.YtnippamifihdpaaGreatDoor
open Go Go.RowKit
set_option linter.unusedVariables false

/-- What a changing call leaves. -/
def OrgPost (w : World) (own : Own) (p : Nat) (S' : OrgS) (w' : World) : Prop :=
  ∃ own', OrgAt w' own' p S' ∧ Fr (fun c => own c ≠ none) w w' ∧ OwnGrow w own own'
theorem OrgPost.ext {w w' : World} {own : Own} {p : Nat} {S : OrgS} (h : OrgAt w own p S) (k : Ext w w') : OrgPost w own p S w' :=
  ⟨own, h.ext k, k.mono fun _ _ => False.elim, OwnGrow.refl _ _⟩

/-- The code where a user or a role is not known. -/
def OrgS.missCode (S : OrgS) (a : ByteArray) : Nat := if (S.findU a).isNone then 20 else 21
section
variable {w : World} {own : Own} {p : Nat} {S : OrgS} {mU nU kU mR nR kR : Value} {br pa : Nat} {ub rb : List (Option Nat)} {D : Nat → Prop}
theorem OrgG.findU (h : OrgG w own p S mU nU kU mR nR kR br pa ub rb D) (name : ByteArray) :
    (∃ i b u, regFind S.un ub name = some (i, b) ∧ S.findU name = some (i, u) ∧ UserAt w own i b u ∧ ub[i]? = some (some b) ∧ S.uk[i]? = some (some u) ∧ i < 64) ∨ (regFind S.un ub name = none ∧ S.findU name = none) := by
  rcases items_find h.us h.ru.len name with ⟨i, b, u, h1, h2, h3, h4, h5, h6⟩ | ⟨h1, h2⟩
  · exact .inl ⟨i, b, u, h1, h2, h3, h4, h5, Nat.lt_of_lt_of_le h6 h.ru.le⟩
  · exact .inr ⟨h1, h2⟩
theorem OrgG.findR (h : OrgG w own p S mU nU kU mR nR kR br pa ub rb D) (name : ByteArray) :
    (∃ i b u, regFind S.rn rb name = some (i, b) ∧ S.findR name = some (i, u) ∧ RoleAt w own i b u ∧ rb[i]? = some (some b) ∧ S.rk[i]? = some (some u) ∧ i < 64) ∨ (regFind S.rn rb name = none ∧ S.findR name = none) := by
  rcases items_find h.rs h.rr.len name with ⟨i, b, u, h1, h2, h3, h4, h5, h6⟩ | ⟨h1, h2⟩
  · exact .inl ⟨i, b, u, h1, h2, h3, h4, h5, Nat.lt_of_lt_of_le h6 h.rr.le⟩
  · exact .inr ⟨h1, h2⟩

/-- A user's word and rest turned, the count raised. -/
theorem OrgG.turnUser (h : OrgG w own p S mU nU kU mR nR kR br pa ub rb D) {i b : Nat} {u u' : UserS} {w' : World} (hb : ub[i]? = some (some b)) (hF : Fr (fun c => c = b ∨ c = p) w w')
    (hu : UserAt w' own i b u') (ep' : Nat) (hp : Blk w' p #[mU, nU, kU, .int .i64 64, mR, nR, kR, .int .i64 64, ptr br, ptr pa, .int .i64 S.now, .int .u64 ep'] 103) (hob : own b = some (.item false i)) :
    OrgG w' own p { S with uk := S.uk.set i (some u'), ep := ep' } mU nU kU mR nR kR br pa ub rb D := by
  have hne : ∀ c t, own c = some t → t ≠ .org → t ≠ .item false i → ¬ (c = b ∨ c = p) := by
    rintro c t hc h1 h2 (rfl | rfl)
    · rw [hob] at hc; injection hc with hc; exact h2 hc.symm
    · rw [h.op] at hc; injection hc with hc; exact h1 hc.symm
  have ht : ¬ ((6 : Nat) = b ∨ (6 : Nat) = p) := by
    have h0 := h.otab
    rintro (hq | hq)
    · rw [hq, hob] at h0; cases h0
    · rw [hq, h.op] at h0; cases h0
  exact ⟨hp, h.op, h.ru.fr hF fun c t hc ht => hne c t hc (by rcases ht with rfl | rfl | rfl <;> simp) (by rcases ht with rfl | rfl | rfl <;> simp),
    h.rr.fr hF fun c t hc ht => hne c t hc (by rcases ht with rfl | rfl | rfl <;> simp) (by rcases ht with rfl | rfl | rfl <;> simp),
    h.us.upd hb hu fun j c v hj _ hv => hv.fr hF (fun c t hc ht => hne c t hc (by rcases ht with rfl | rfl <;> simp) (by rcases ht with rfl | rfl <;> simp [hj])) (fun _ _ h => h),
    h.rs.mono fun j c v _ hv => hv.fr hF (fun c t hc ht => hne c t hc (by rcases ht with rfl | rfl <;> simp) (by rcases ht with rfl | rfl <;> simp)) (fun _ _ h => h),
    h.rk.fr hF (hne _ _ h.ork (by simp) (by simp)), h.ork, h.ag.fr hF fun c hc => hne _ _ (h.oag c hc) (by simp) (by simp), h.oag,
    fun c t hc => Nat.lt_of_lt_of_le (h.lt c t hc) hF.size, h.otab, h.tab.fr hF ht⟩
end

theorem and_pow (a j : Nat) : (a &&& 2 ^ j = 0) ↔ a.testBit j = false := by
  constructor
  · intro h
    have := congrArg (fun n => n.testBit j) h
    simpa [Nat.testBit_and, Nat.testBit_two_pow_self] using this
  · intro h
    refine Nat.eq_of_testBit_eq fun i => ?_
    rw [Nat.testBit_and, Nat.testBit_two_pow]
    by_cases hi : j = i
    · subst hi; simp [h]
    · simp [hi]
theorem bits_test (a j : Nat) (ha : a < 18446744073709551616) (hj : j < 64) : bits .and .u64 (a : Int) ((2 ^ j : Nat) : Int) = ((a &&& 2 ^ j : Nat) : Int) := bits_and_u64_nat a (2 ^ j) ha (pow_lt j hj)

/-- Join. -/
def OrgS.join (S : OrgS) (a c : ByteArray) : Nat × OrgS :=
  match S.findU a, S.findR c with
  | some (i, u), some (j, _) => if u.roles.testBit j then (5, S) else (0, { S with uk := S.uk.set i (some { u with roles := u.roles ||| 2 ^ j }), ep := S.ep + 1 })
  | _, _ => (S.missCode a, S)
def OrgS.leave (S : OrgS) (a c : ByteArray) : Nat × OrgS :=
  match S.findU a, S.findR c with
  | some (i, u), some (j, _) => if u.roles.testBit j then (0, { S with uk := S.uk.set i (some { u with roles := u.roles &&& (18446744073709551615 - 2 ^ j) }), ep := S.ep + 1 }) else (26, S)
  | _, _ => (S.missCode a, S)

theorem turned (w1 : World) (own : Own) (i b : Nat) (u : UserS) (x : Nat) (hx : x < 18446744073709551616) (hu : UserAt w1 own i b u) : UserAt (w1.setCell ⟨b, 0, none⟩ (.int .u64 x)) own i b { u with roles := x } := by
  obtain ⟨ho, hr, m, hb, hm2, hs⟩ := hu
  refine ⟨ho, hx, m, hb.setCell 0 _, hm2, hs.fr ((Fr.refl (fun c => c = b) w1).setCell (p := ⟨b, 0, none⟩) (.inl rfl) _) ?_⟩
  rintro rfl
  rw [ho] at hm2
  cases hm2

set_option maxHeartbeats 4000000 in
theorem join_hit (w : World) (p b j i q : Nat) (a c : ByteArray) (u : UserS) (own : Own) (pcs : Array Value) (ep : Nat) (hj : j < 64) (hq : 2 ^ j = q)
    (hm : Calls Tryz.prog 61 #[ptr p, .string a, .string c] w fun e w' => e = .returned (.tuple #[ptr b, .int .u64 (q : Int), .int .i64 0]) ∧ Ext w w')
    (hu : UserAt w own i b u) (hp : Blk w p pcs 103) (h11 : pcs[11]? = some (.int .u64 ep)) (hep : ep < 1000000) (hpb : b ≠ p) (hop : own p = some .org) (hbit : u.roles.testBit j = false) :
    Calls Tryz.prog 18 #[ptr p, .string a, .string c] w fun e w' => e = .returned (.int .i64 0) ∧ UserAt w' own i b { u with roles := u.roles ||| q } ∧
      Blk w' p (pcs.setIfInBounds 11 (.int .u64 ((ep + 1 : Nat) : Int))) 103 ∧ Fr (fun k => k = b ∨ k = p) w w' := by
  obtain ⟨m, hb⟩ : ∃ m, Blk w b #[.int .u64 u.roles, .map (some m), .bool u.rests] 108 := by obtain ⟨_, _, m, hb, _⟩ := hu; exact ⟨m, hb⟩
  have hr : u.roles < 18446744073709551616 := hu.2.1
  have hql : q < 18446744073709551616 := by rw [← hq]; exact pow_lt j hj
  have hne : (bits .and .u64 (u.roles : Int) (q : Int) != 0) = false := by
    have := bits_test u.roles j hr hj
    rw [hq] at this
    rw [this, ← hq, (and_pow u.roles j).2 hbit]
    rfl
  have hor : bits .or .u64 (u.roles : Int) (q : Int) = ((u.roles ||| q : Nat) : Int) := u64_or_nat _ _ hr hql
  have hb0 := (hb.cell 0).trans rfl
  have hf0 := hb.frozen 0
  have hs0 : ∀ W, Ext w W → W.cell? ⟨b, 0, none⟩ = some (.int .u64 u.roles) ∧ W.frozen? ⟨b, 0, none⟩ = false := fun W hW => ⟨(hW.cell (a := ⟨b, 0, none⟩) hb.lt id).trans hb0, (hW.frozen (a := ⟨b, 0, none⟩) hb.lt id).trans hf0⟩
  have HS0 := hid hs0
  have HP := hid hp
  have HH := hid h11
  have HU := hid hu
  have HO := hid hor
  have hx : u.roles ||| q < 18446744073709551616 := Nat.or_lt_two_pow (n := 64) hr hql
  have HX := hid hx
  clear hb0 hf0 hs0 hb hp h11 hor hu hq hx
  go_enter Tryz.func18, Tryz.ntmps18
  go_wp2_with (first | (go_at_call 61; refine hm.mono ?_; rintro r w1 ⟨rfl, hE⟩; obtain ⟨hc0, hf0⟩ := HS0.out w1 hE; have HE := hid hE; clear hE) | (go_at_call 59; rw [HO.out]; refine (done_ok p ep pcs _ ((HP.out.ext HE.out).setCell_other (p := ⟨b, 0, none⟩) (Ne.symm hpb) _) HH.out hep).mono ?_; rintro r w2 ⟨rfl, hp2, hF2⟩; have HP2 := hid hp2; have HF2 := hid hF2; clear hp2 hF2))
  go_ret
  have hF1 : Fr (fun k => k = b ∨ k = p) w (w1.setCell ⟨b, 0, none⟩ (.int .u64 ((u.roles ||| q : Nat) : Int))) := (HE.out.mono fun _ _ => False.elim).setCell (p := ⟨b, 0, none⟩) (.inl (.inl rfl)) _
  refine ⟨rfl, ?_, HP2.out, hF1.trans' HF2.out fun _ _ h => .inr h⟩
  have h2 := turned w1 own i b u (u.roles ||| q) HX.out (HU.out.fr HE.out (fun _ _ _ _ => id) (fun _ _ h => h))
  exact h2.fr HF2.out (fun c t hc ht hcp => by
    rw [hcp, hop] at hc
    injection hc with hc
    subst hc
    rcases ht with ht | ht <;> cases ht) (fun _ _ h => h)
set_option maxHeartbeats 4000000 in
theorem leave_hit (w : World) (p b j i q : Nat) (a c : ByteArray) (u : UserS) (own : Own) (pcs : Array Value) (ep : Nat) (hj : j < 64) (hq : 2 ^ j = q)
    (hm : Calls Tryz.prog 61 #[ptr p, .string a, .string c] w fun e w' => e = .returned (.tuple #[ptr b, .int .u64 (q : Int), .int .i64 0]) ∧ Ext w w')
    (hu : UserAt w own i b u) (hp : Blk w p pcs 103) (h11 : pcs[11]? = some (.int .u64 ep)) (hep : ep < 1000000) (hpb : b ≠ p) (hop : own p = some .org) (hbit : u.roles.testBit j = true) :
    Calls Tryz.prog 84 #[ptr p, .string a, .string c] w fun e w' => e = .returned (.int .i64 0) ∧ UserAt w' own i b { u with roles := u.roles &&& (18446744073709551615 - q) } ∧
      Blk w' p (pcs.setIfInBounds 11 (.int .u64 ((ep + 1 : Nat) : Int))) 103 ∧ Fr (fun k => k = b ∨ k = p) w w' := by
  obtain ⟨m, hb⟩ : ∃ m, Blk w b #[.int .u64 u.roles, .map (some m), .bool u.rests] 108 := by obtain ⟨_, _, m, hb, _⟩ := hu; exact ⟨m, hb⟩
  have hr : u.roles < 18446744073709551616 := hu.2.1
  have hql : q < 18446744073709551616 := by rw [← hq]; exact pow_lt j hj
  have hne : (bits .and .u64 (u.roles : Int) (q : Int) == 0) = false := by
    have h1 := bits_test u.roles j hr hj
    rw [hq] at h1
    rw [h1, beq_eq_false_iff_ne]
    intro h0
    have h2 : u.roles &&& 2 ^ j = 0 := by rw [hq]; omega
    rw [and_pow, hbit] at h2
    cases h2
  have hor : bits .andNot .u64 (u.roles : Int) (q : Int) = ((u.roles &&& (18446744073709551615 - q) : Nat) : Int) := u64_andNot_nat _ _ hr hql
  have hb0 := (hb.cell 0).trans rfl
  have hf0 := hb.frozen 0
  have hs0 : ∀ W, Ext w W → W.cell? ⟨b, 0, none⟩ = some (.int .u64 u.roles) ∧ W.frozen? ⟨b, 0, none⟩ = false := fun W hW => ⟨(hW.cell (a := ⟨b, 0, none⟩) hb.lt id).trans hb0, (hW.frozen (a := ⟨b, 0, none⟩) hb.lt id).trans hf0⟩
  have HS0 := hid hs0
  have HP := hid hp
  have HH := hid h11
  have HU := hid hu
  have HO := hid hor
  have hx : u.roles &&& (18446744073709551615 - q) < 18446744073709551616 := Nat.lt_of_le_of_lt Nat.and_le_left hr
  have HX := hid hx
  clear hb0 hf0 hs0 hb hp h11 hor hu hq hx
  go_enter Tryz.func84, Tryz.ntmps84
  go_wp2_with (first | (go_at_call 61; refine hm.mono ?_; rintro r w1 ⟨rfl, hE⟩; obtain ⟨hc0, hf0⟩ := HS0.out w1 hE; have HE := hid hE; clear hE) | (go_at_call 59; rw [HO.out]; refine (done_ok p ep pcs _ ((HP.out.ext HE.out).setCell_other (p := ⟨b, 0, none⟩) (Ne.symm hpb) _) HH.out hep).mono ?_; rintro r w2 ⟨rfl, hp2, hF2⟩; have HP2 := hid hp2; have HF2 := hid hF2; clear hp2 hF2))
  go_ret
  have hF1 : Fr (fun k => k = b ∨ k = p) w (w1.setCell ⟨b, 0, none⟩ (.int .u64 ((u.roles &&& (18446744073709551615 - q) : Nat) : Int))) := (HE.out.mono fun _ _ => False.elim).setCell (p := ⟨b, 0, none⟩) (.inl (.inl rfl)) _
  refine ⟨rfl, ?_, HP2.out, hF1.trans' HF2.out fun _ _ h => .inr h⟩
  have h2 := turned w1 own i b u (u.roles &&& (18446744073709551615 - q)) HX.out (HU.out.fr HE.out (fun _ _ _ _ => id) (fun _ _ h => h))
  exact h2.fr HF2.out (fun c t hc ht hcp => by
    rw [hcp, hop] at hc
    injection hc with hc
    subst hc
    rcases ht with ht | ht <;> cases ht) (fun _ _ h => h)

set_option maxHeartbeats 4000000 in
theorem join_twice (w : World) (p b j q : Nat) (a c : ByteArray) (r : Nat) (m : Value) (t : Bool) (hj : j < 64) (hq : 2 ^ j = q)
    (hm : Calls Tryz.prog 61 #[ptr p, .string a, .string c] w fun e w' => e = .returned (.tuple #[ptr b, .int .u64 (q : Int), .int .i64 0]) ∧ Ext w w')
    (hb : Blk w b #[.int .u64 r, m, .bool t] 108) (hr : r < 18446744073709551616) (hbit : r.testBit j = true) :
    Calls Tryz.prog 18 #[ptr p, .string a, .string c] w fun e w' => e = .returned (.int .i64 5) ∧ Ext w w' := by
  have hne : (bits .and .u64 (r : Int) (q : Int) != 0) = true := by
    have h1 := bits_test r j hr hj
    rw [hq] at h1
    rw [h1, bne_iff_ne]
    intro h0
    have h2 : r &&& 2 ^ j = 0 := by rw [hq]; omega
    rw [and_pow, hbit] at h2
    cases h2
  have hb0 := (hb.cell 0).trans rfl
  have hs0 : ∀ W, Ext w W → W.cell? ⟨b, 0, none⟩ = some (.int .u64 r) := fun W hW => (hW.cell (a := ⟨b, 0, none⟩) hb.lt id).trans hb0
  have HS0 := hid hs0
  clear hb0 hs0 hb hq
  go_enter Tryz.func18, Tryz.ntmps18
  go_wp2_with (first | (go_at_call 61; refine hm.mono ?_; rintro r w1 ⟨rfl, hE⟩; have hc0 := HS0.out w1 hE; have HE := hid hE; clear hE))
  go_ret
  exact ⟨rfl, HE.out⟩
set_option maxHeartbeats 4000000 in
theorem leave_link (w : World) (p b j q : Nat) (a c : ByteArray) (r : Nat) (m : Value) (t : Bool) (hj : j < 64) (hq : 2 ^ j = q)
    (hm : Calls Tryz.prog 61 #[ptr p, .string a, .string c] w fun e w' => e = .returned (.tuple #[ptr b, .int .u64 (q : Int), .int .i64 0]) ∧ Ext w w')
    (hb : Blk w b #[.int .u64 r, m, .bool t] 108) (hr : r < 18446744073709551616) (hbit : r.testBit j = false) :
    Calls Tryz.prog 84 #[ptr p, .string a, .string c] w fun e w' => e = .returned (.int .i64 26) ∧ Ext w w' := by
  have hne : (bits .and .u64 (r : Int) (q : Int) == 0) = true := by
    have h1 := bits_test r j hr hj
    rw [hq] at h1
    rw [h1, ← hq, (and_pow r j).2 hbit]
    rfl
  have hb0 := (hb.cell 0).trans rfl
  have hs0 : ∀ W, Ext w W → W.cell? ⟨b, 0, none⟩ = some (.int .u64 r) := fun W hW => (hW.cell (a := ⟨b, 0, none⟩) hb.lt id).trans hb0
  have HS0 := hid hs0
  clear hb0 hs0 hb hq
  go_enter Tryz.func84, Tryz.ntmps84
  go_wp2_with (first | (go_at_call 61; refine hm.mono ?_; rintro r w1 ⟨rfl, hE⟩; have hc0 := HS0.out w1 hE; have HE := hid hE; clear hE))
  go_ret
  exact ⟨rfl, HE.out⟩
theorem join_miss (w : World) (p k : Nat) (a c : ByteArray) (hk : k ≠ 0)
    (hm : Calls Tryz.prog 61 #[ptr p, .string a, .string c] w fun e w' => (∃ x y, e = .returned (.tuple #[x, y, .int .i64 (k : Nat)])) ∧ Ext w w') :
    Calls Tryz.prog 18 #[ptr p, .string a, .string c] w fun e w' => e = .returned (.int .i64 k) ∧ Ext w w' := by
  have h1 : ((k : Int) != 0) = true := by simpa using hk
  go_enter Tryz.func18, Tryz.ntmps18
  go_wp2_with (first | (go_at_call 61; refine hm.mono ?_; rintro r w1 ⟨⟨x, y, rfl⟩, hE⟩; have HE := hid hE; clear hE))
  go_ret
  exact ⟨rfl, HE.out⟩
theorem leave_miss (w : World) (p k : Nat) (a c : ByteArray) (hk : k ≠ 0)
    (hm : Calls Tryz.prog 61 #[ptr p, .string a, .string c] w fun e w' => (∃ x y, e = .returned (.tuple #[x, y, .int .i64 (k : Nat)])) ∧ Ext w w') :
    Calls Tryz.prog 84 #[ptr p, .string a, .string c] w fun e w' => e = .returned (.int .i64 k) ∧ Ext w w' := by
  have h1 : ((k : Int) != 0) = true := by simpa using hk
  go_enter Tryz.func84, Tryz.ntmps84
  go_wp2_with (first | (go_at_call 61; refine hm.mono ?_; rintro r w1 ⟨⟨x, y, rfl⟩, hE⟩; have HE := hid hE; clear hE))
  go_ret
  exact ⟨rfl, HE.out⟩

section
variable {w : World} {own : Own} {p : Nat} {S : OrgS}
theorem OrgG.missCode {mU nU kU mR nR kR : Value} {br pa : Nat} {ub rb : List (Option Nat)} {D : Nat → Prop} (h : OrgG w own p S mU nU kU mR nR kR br pa ub rb D) (a : ByteArray) :
    (if regFind S.un ub a = none then 20 else 21 : Nat) = S.missCode a := by
  unfold OrgS.missCode
  rcases h.findU a with ⟨i, b, u, h1, h2, _⟩ | ⟨h1, h2⟩
  · rw [h1, h2]; rfl
  · rw [h1, h2]; rfl
theorem missCode_ne (S : OrgS) (a : ByteArray) : S.missCode a ≠ 0 := by unfold OrgS.missCode; split <;> decide
theorem item_ne {b : Nat} {i : Nat} {s : Bool} (h : own b = some (.item s i)) (hp : own p = some .org) : b ≠ p := by
  rintro rfl
  rw [h] at hp
  cases hp
theorem userBlk {i b : Nat} {u : UserS} (h : UserAt w own i b u) : ∃ m, Blk w b #[.int .u64 u.roles, .map (some m), .bool u.rests] 108 := by
  obtain ⟨_, _, m, hb, _⟩ := h
  exact ⟨m, hb⟩
theorem OrgPost.turn {mU nU kU mR nR kR : Value} {br pa : Nat} {ub rb : List (Option Nat)} {D : Nat → Prop} (h : OrgG w own p S mU nU kU mR nR kR br pa ub rb D) {i b : Nat} {u u' : UserS} {w' : World} (hb : ub[i]? = some (some b))
    (hF : Fr (fun c => c = b ∨ c = p) w w') (hu : UserAt w' own i b u') (ep' : Nat) (hp : Blk w' p #[mU, nU, kU, .int .i64 64, mR, nR, kR, .int .i64 64, ptr br, ptr pa, .int .i64 S.now, .int .u64 ep'] 103) (hob : own b = some (.item false i)) :
    OrgPost w own p { S with uk := S.uk.set i (some u'), ep := ep' } w' :=
  ⟨own, ⟨_, _, _, _, _, _, _, _, _, _, _, h.turnUser (u := u) hb hF hu ep' hp hob⟩, hF.mono (by
    rintro c _ (rfl | rfl)
    · rw [hob]; simp
    · rw [h.op]; simp), OwnGrow.refl w own⟩

theorem join_any (a c : ByteArray) (h : OrgAt w own p S) (hep : S.ep < 1000000) :
    Calls Tryz.prog 18 #[ptr p, .string a, .string c] w fun e w' => e = .returned (.int .i64 (S.join a c).1) ∧ OrgPost w own p (S.join a c).2 w' := by
  obtain ⟨mU, nU, kU, mR, nR, kR, br, pa, ub, rb, D, g⟩ := h
  have hA : OrgAt w own p S := ⟨mU, nU, kU, mR, nR, kR, br, pa, ub, rb, D, g⟩
  unfold OrgS.join
  rcases g.findU a with ⟨i, b, u, h1, h2, hu, hub, huk, hi⟩ | ⟨h1, h2⟩
  · rcases g.findR c with ⟨j, d, r, k1, k2, hr, hrb, hrk, hj⟩ | ⟨k1, k2⟩
    · rw [h2, k2]
      dsimp only
      have hm := g.member_hit h1 k1
      cases hbit : u.roles.testBit j
      · refine (join_hit w p b j i (2 ^ j) a c u own _ S.ep hj rfl hm hu g.blk rfl hep (item_ne hu.1 g.op) g.op hbit).mono ?_
        rintro e w' ⟨rfl, hu', hp', hF⟩
        exact ⟨rfl, OrgPost.turn g (u := u) hub hF hu' _ hp' hu.1⟩
      · obtain ⟨m, hb⟩ := userBlk hu
        exact (join_twice w p b j (2 ^ j) a c u.roles _ _ hj rfl hm hb hu.2.1 hbit).mono fun e w' k => ⟨k.1, OrgPost.ext hA k.2⟩
    · rw [h2, k2]
      dsimp only
      have hm := g.member_miss (a := a) (c := c) (.inr k1)
      rw [g.missCode a] at hm
      exact (join_miss w p _ a c (missCode_ne S a) hm).mono fun e w' k => ⟨k.1, OrgPost.ext hA k.2⟩
  · rw [h2]
    dsimp only
    have hm := g.member_miss (a := a) (c := c) (.inl h1)
    rw [g.missCode a] at hm
    exact (join_miss w p _ a c (missCode_ne S a) hm).mono fun e w' k => ⟨k.1, OrgPost.ext hA k.2⟩
theorem leave_any (a c : ByteArray) (h : OrgAt w own p S) (hep : S.ep < 1000000) :
    Calls Tryz.prog 84 #[ptr p, .string a, .string c] w fun e w' => e = .returned (.int .i64 (S.leave a c).1) ∧ OrgPost w own p (S.leave a c).2 w' := by
  obtain ⟨mU, nU, kU, mR, nR, kR, br, pa, ub, rb, D, g⟩ := h
  have hA : OrgAt w own p S := ⟨mU, nU, kU, mR, nR, kR, br, pa, ub, rb, D, g⟩
  unfold OrgS.leave
  rcases g.findU a with ⟨i, b, u, h1, h2, hu, hub, huk, hi⟩ | ⟨h1, h2⟩
  · rcases g.findR c with ⟨j, d, r, k1, k2, hr, hrb, hrk, hj⟩ | ⟨k1, k2⟩
    · rw [h2, k2]
      dsimp only
      have hm := g.member_hit h1 k1
      cases hbit : u.roles.testBit j
      · obtain ⟨m, hb⟩ := userBlk hu
        exact (leave_link w p b j (2 ^ j) a c u.roles _ _ hj rfl hm hb hu.2.1 hbit).mono fun e w' k => ⟨k.1, OrgPost.ext hA k.2⟩
      · refine (leave_hit w p b j i (2 ^ j) a c u own _ S.ep hj rfl hm hu g.blk rfl hep (item_ne hu.1 g.op) g.op hbit).mono ?_
        rintro e w' ⟨rfl, hu', hp', hF⟩
        exact ⟨rfl, OrgPost.turn g (u := u) hub hF hu' _ hp' hu.1⟩
    · rw [h2, k2]
      dsimp only
      have hm := g.member_miss (a := a) (c := c) (.inr k1)
      rw [g.missCode a] at hm
      exact (leave_miss w p _ a c (missCode_ne S a) hm).mono fun e w' k => ⟨k.1, OrgPost.ext hA k.2⟩
  · rw [h2]
    dsimp only
    have hm := g.member_miss (a := a) (c := c) (.inl h1)
    rw [g.missCode a] at hm
    exact (leave_miss w p _ a c (missCode_ne S a) hm).mono fun e w' k => ⟨k.1, OrgPost.ext hA k.2⟩
end
end Go.Proofs.YtnippamifihdpaaGreatDoor
namespace Go.Proofs.YtnippamifihdpaaGreatDoor
open Go Go.RowKit
set_option linter.unusedVariables false

def OrgS.rest (S : OrgS) (a : ByteArray) : Nat × OrgS :=
  match S.findU a with
  | some (i, u) => if u.rests then (5, S) else (0, { S with uk := S.uk.set i (some { u with rests := true }), ep := S.ep + 1 })
  | none => (20, S)
def OrgS.wake (S : OrgS) (a : ByteArray) : Nat × OrgS :=
  match S.findU a with
  | some (i, u) => if u.rests then (0, { S with uk := S.uk.set i (some { u with rests := false }), ep := S.ep + 1 }) else (26, S)
  | none => (20, S)
theorem turnedRest (w1 : World) (own : Own) (i b : Nat) (u : UserS) (x : Bool) (hu : UserAt w1 own i b u) : UserAt (w1.setCell ⟨b, 2, none⟩ (.bool x)) own i b { u with rests := x } := by
  obtain ⟨ho, hr, m, hb, hm2, hs⟩ := hu
  refine ⟨ho, hr, m, hb.setCell 2 _, hm2, hs.fr ((Fr.refl (fun c => c = b) w1).setCell (p := ⟨b, 2, none⟩) (.inl rfl) _) ?_⟩
  rintro rfl
  rw [ho] at hm2
  cases hm2
set_option maxHeartbeats 4000000 in
theorem rest_hit (w : World) (p b i : Nat) (a : ByteArray) (u : UserS) (own : Own) (pcs : Array Value) (ep : Nat)
    (hm : Calls Tryz.prog 66 #[ptr p, .string a] w fun e w' => e = .returned (.tuple #[.int .i64 i, ptr b, .int .i64 0]) ∧ Ext w w')
    (hu : UserAt w own i b u) (hp : Blk w p pcs 103) (h11 : pcs[11]? = some (.int .u64 ep)) (hep : ep < 1000000) (hpb : b ≠ p) (hop : own p = some .org) (hbit : u.rests = false) :
    Calls Tryz.prog 90 #[ptr p, .string a] w fun e w' => e = .returned (.int .i64 0) ∧ UserAt w' own i b { u with rests := true } ∧
      Blk w' p (pcs.setIfInBounds 11 (.int .u64 ((ep + 1 : Nat) : Int))) 103 ∧ Fr (fun k => k = b ∨ k = p) w w' := by
  obtain ⟨m, hb⟩ := userBlk hu
  rw [hbit] at hb
  have hb0 := (hb.cell 2).trans rfl
  have hf0 := hb.frozen 2
  have hs0 : ∀ W, Ext w W → W.cell? ⟨b, 2, none⟩ = some (.bool false) ∧ W.frozen? ⟨b, 2, none⟩ = false := fun W hW => ⟨(hW.cell (a := ⟨b, 2, none⟩) hb.lt id).trans hb0, (hW.frozen (a := ⟨b, 2, none⟩) hb.lt id).trans hf0⟩
  have HS0 := hid hs0
  have HP := hid hp
  have HH := hid h11
  have HU := hid hu
  clear hb0 hf0 hs0 hb hp h11 hu
  go_enter Tryz.func90, Tryz.ntmps90
  go_wp2_with (first | (go_at_call 66; refine hm.mono ?_; rintro r w1 ⟨rfl, hE⟩; obtain ⟨hc0, hf0⟩ := HS0.out w1 hE; have HE := hid hE; clear hE) | (go_at_call 59; refine (done_ok p ep pcs _ ((HP.out.ext HE.out).setCell_other (p := ⟨b, 2, none⟩) (Ne.symm hpb) _) HH.out hep).mono ?_; rintro r w2 ⟨rfl, hp2, hF2⟩; have HP2 := hid hp2; have HF2 := hid hF2; clear hp2 hF2))
  go_ret
  have hF1 : Fr (fun k => k = b ∨ k = p) w (w1.setCell ⟨b, 2, none⟩ (.bool true)) := (HE.out.mono fun _ _ => False.elim).setCell (p := ⟨b, 2, none⟩) (.inl (.inl rfl)) _
  refine ⟨rfl, ?_, HP2.out, hF1.trans' HF2.out fun _ _ h => .inr h⟩
  have h2 := turnedRest w1 own i b u true (HU.out.fr HE.out (fun _ _ _ _ => id) (fun _ _ h => h))
  exact h2.fr HF2.out (fun c t hc ht hcp => by
    rw [hcp, hop] at hc
    injection hc with hc
    subst hc
    rcases ht with ht | ht <;> cases ht) (fun _ _ h => h)
set_option maxHeartbeats 4000000 in
theorem rest_twice (w : World) (p b i : Nat) (a : ByteArray) (r : Nat) (m : Value)
    (hm : Calls Tryz.prog 66 #[ptr p, .string a] w fun e w' => e = .returned (.tuple #[.int .i64 i, ptr b, .int .i64 0]) ∧ Ext w w')
    (hb : Blk w b #[.int .u64 r, m, .bool true] 108) :
    Calls Tryz.prog 90 #[ptr p, .string a] w fun e w' => e = .returned (.int .i64 5) ∧ Ext w w' := by
  have hb0 := (hb.cell 2).trans rfl
  have hs0 : ∀ W, Ext w W → W.cell? ⟨b, 2, none⟩ = some (.bool true) := fun W hW => (hW.cell (a := ⟨b, 2, none⟩) hb.lt id).trans hb0
  have HS0 := hid hs0
  clear hb0 hs0 hb
  go_enter Tryz.func90, Tryz.ntmps90
  go_wp2_with (first | (go_at_call 66; refine hm.mono ?_; rintro r w1 ⟨rfl, hE⟩; have hc0 := HS0.out w1 hE; have HE := hid hE; clear hE))
  go_ret
  exact ⟨rfl, HE.out⟩
theorem rest_miss (w : World) (p : Nat) (a : ByteArray)
    (hm : Calls Tryz.prog 66 #[ptr p, .string a] w fun e w' => ∃ b, e = .returned (.tuple #[.int .i64 0, ptr b, .int .i64 20]) ∧ Blk w' b #[.int .u64 0, .map none, .bool false] 108 ∧ Ext w w' ∧ w.heap.size ≤ b) :
    Calls Tryz.prog 90 #[ptr p, .string a] w fun e w' => e = .returned (.int .i64 20) ∧ Ext w w' := by
  go_enter Tryz.func90, Tryz.ntmps90
  go_wp2_with (first | (go_at_call 66; refine hm.mono ?_; rintro r w1 ⟨b, rfl, hb, hE, hbl⟩; have HE := hid hE; clear hE))
  go_ret
  exact ⟨rfl, HE.out⟩
theorem rest_any {w : World} {own : Own} {p : Nat} {S : OrgS} (a : ByteArray) (h : OrgAt w own p S) (hep : S.ep < 1000000) :
    Calls Tryz.prog 90 #[ptr p, .string a] w fun e w' => e = .returned (.int .i64 (S.rest a).1) ∧ OrgPost w own p (S.rest a).2 w' := by
  obtain ⟨mU, nU, kU, mR, nR, kR, br, pa, ub, rb, D, g⟩ := h
  have hA : OrgAt w own p S := ⟨mU, nU, kU, mR, nR, kR, br, pa, ub, rb, D, g⟩
  unfold OrgS.rest
  rcases g.findU a with ⟨i, b, u, h1, h2, hu, hub, huk, hi⟩ | ⟨h1, h2⟩
  · rw [h2]
    dsimp only
    have hm := g.user_hit h1
    cases hbit : u.rests
    · refine (rest_hit w p b i a u own _ S.ep hm hu g.blk rfl hep (item_ne hu.1 g.op) g.op hbit).mono ?_
      rintro e w' ⟨rfl, hu', hp', hF⟩
      exact ⟨rfl, OrgPost.turn g (u := u) hub hF hu' _ hp' hu.1⟩
    · obtain ⟨m, hb⟩ := userBlk hu
      rw [hbit] at hb
      exact (rest_twice w p b i a u.roles _ hm hb).mono fun e w' k => ⟨k.1, OrgPost.ext hA k.2⟩
  · rw [h2]
    dsimp only
    exact (rest_miss w p a (g.user_miss h1)).mono fun e w' k => ⟨k.1, OrgPost.ext hA k.2⟩
set_option maxHeartbeats 4000000 in
theorem wake_hit (w : World) (p b i : Nat) (a : ByteArray) (u : UserS) (own : Own) (pcs : Array Value) (ep : Nat)
    (hm : Calls Tryz.prog 66 #[ptr p, .string a] w fun e w' => e = .returned (.tuple #[.int .i64 i, ptr b, .int .i64 0]) ∧ Ext w w')
    (hu : UserAt w own i b u) (hp : Blk w p pcs 103) (h11 : pcs[11]? = some (.int .u64 ep)) (hep : ep < 1000000) (hpb : b ≠ p) (hop : own p = some .org) (hbit : u.rests = true) :
    Calls Tryz.prog 91 #[ptr p, .string a] w fun e w' => e = .returned (.int .i64 0) ∧ UserAt w' own i b { u with rests := false } ∧
      Blk w' p (pcs.setIfInBounds 11 (.int .u64 ((ep + 1 : Nat) : Int))) 103 ∧ Fr (fun k => k = b ∨ k = p) w w' := by
  obtain ⟨m, hb⟩ := userBlk hu
  rw [hbit] at hb
  have hb0 := (hb.cell 2).trans rfl
  have hf0 := hb.frozen 2
  have hs0 : ∀ W, Ext w W → W.cell? ⟨b, 2, none⟩ = some (.bool true) ∧ W.frozen? ⟨b, 2, none⟩ = false := fun W hW => ⟨(hW.cell (a := ⟨b, 2, none⟩) hb.lt id).trans hb0, (hW.frozen (a := ⟨b, 2, none⟩) hb.lt id).trans hf0⟩
  have HS0 := hid hs0
  have HP := hid hp
  have HH := hid h11
  have HU := hid hu
  clear hb0 hf0 hs0 hb hp h11 hu
  go_enter Tryz.func91, Tryz.ntmps91
  go_wp2_with (first | (go_at_call 66; refine hm.mono ?_; rintro r w1 ⟨rfl, hE⟩; obtain ⟨hc0, hf0⟩ := HS0.out w1 hE; have HE := hid hE; clear hE) | (go_at_call 59; refine (done_ok p ep pcs _ ((HP.out.ext HE.out).setCell_other (p := ⟨b, 2, none⟩) (Ne.symm hpb) _) HH.out hep).mono ?_; rintro r w2 ⟨rfl, hp2, hF2⟩; have HP2 := hid hp2; have HF2 := hid hF2; clear hp2 hF2))
  go_ret
  have hF1 : Fr (fun k => k = b ∨ k = p) w (w1.setCell ⟨b, 2, none⟩ (.bool false)) := (HE.out.mono fun _ _ => False.elim).setCell (p := ⟨b, 2, none⟩) (.inl (.inl rfl)) _
  refine ⟨rfl, ?_, HP2.out, hF1.trans' HF2.out fun _ _ h => .inr h⟩
  have h2 := turnedRest w1 own i b u false (HU.out.fr HE.out (fun _ _ _ _ => id) (fun _ _ h => h))
  exact h2.fr HF2.out (fun c t hc ht hcp => by
    rw [hcp, hop] at hc
    injection hc with hc
    subst hc
    rcases ht with ht | ht <;> cases ht) (fun _ _ h => h)
set_option maxHeartbeats 4000000 in
theorem wake_twice (w : World) (p b i : Nat) (a : ByteArray) (r : Nat) (m : Value)
    (hm : Calls Tryz.prog 66 #[ptr p, .string a] w fun e w' => e = .returned (.tuple #[.int .i64 i, ptr b, .int .i64 0]) ∧ Ext w w')
    (hb : Blk w b #[.int .u64 r, m, .bool false] 108) :
    Calls Tryz.prog 91 #[ptr p, .string a] w fun e w' => e = .returned (.int .i64 26) ∧ Ext w w' := by
  have hb0 := (hb.cell 2).trans rfl
  have hs0 : ∀ W, Ext w W → W.cell? ⟨b, 2, none⟩ = some (.bool false) := fun W hW => (hW.cell (a := ⟨b, 2, none⟩) hb.lt id).trans hb0
  have HS0 := hid hs0
  clear hb0 hs0 hb
  go_enter Tryz.func91, Tryz.ntmps91
  go_wp2_with (first | (go_at_call 66; refine hm.mono ?_; rintro r w1 ⟨rfl, hE⟩; have hc0 := HS0.out w1 hE; have HE := hid hE; clear hE))
  go_ret
  exact ⟨rfl, HE.out⟩
theorem wake_miss (w : World) (p : Nat) (a : ByteArray)
    (hm : Calls Tryz.prog 66 #[ptr p, .string a] w fun e w' => ∃ b, e = .returned (.tuple #[.int .i64 0, ptr b, .int .i64 20]) ∧ Blk w' b #[.int .u64 0, .map none, .bool false] 108 ∧ Ext w w' ∧ w.heap.size ≤ b) :
    Calls Tryz.prog 91 #[ptr p, .string a] w fun e w' => e = .returned (.int .i64 20) ∧ Ext w w' := by
  go_enter Tryz.func91, Tryz.ntmps91
  go_wp2_with (first | (go_at_call 66; refine hm.mono ?_; rintro r w1 ⟨b, rfl, hb, hE, hbl⟩; have HE := hid hE; clear hE))
  go_ret
  exact ⟨rfl, HE.out⟩
theorem wake_any {w : World} {own : Own} {p : Nat} {S : OrgS} (a : ByteArray) (h : OrgAt w own p S) (hep : S.ep < 1000000) :
    Calls Tryz.prog 91 #[ptr p, .string a] w fun e w' => e = .returned (.int .i64 (S.wake a).1) ∧ OrgPost w own p (S.wake a).2 w' := by
  obtain ⟨mU, nU, kU, mR, nR, kR, br, pa, ub, rb, D, g⟩ := h
  have hA : OrgAt w own p S := ⟨mU, nU, kU, mR, nR, kR, br, pa, ub, rb, D, g⟩
  unfold OrgS.wake
  rcases g.findU a with ⟨i, b, u, h1, h2, hu, hub, huk, hi⟩ | ⟨h1, h2⟩
  · rw [h2]
    dsimp only
    have hm := g.user_hit h1
    cases hbit : u.rests
    · obtain ⟨m, hb⟩ := userBlk hu
      rw [hbit] at hb
      exact (wake_twice w p b i a u.roles _ hm hb).mono fun e w' k => ⟨k.1, OrgPost.ext hA k.2⟩
    · refine (wake_hit w p b i a u own _ S.ep hm hu g.blk rfl hep (item_ne hu.1 g.op) g.op hbit).mono ?_
      rintro e w' ⟨rfl, hu', hp', hF⟩
      exact ⟨rfl, OrgPost.turn g (u := u) hub hF hu' _ hp' hu.1⟩
  · rw [h2]
    dsimp only
    exact (wake_miss w p a (g.user_miss h1)).mono fun e w' k => ⟨k.1, OrgPost.ext hA k.2⟩
end Go.Proofs.YtnippamifihdpaaGreatDoor
namespace Go.Proofs.YtnippamifihdpaaGreatDoor
open Go Go.RowKit
set_option linter.unusedVariables false

section
variable {w : World} {own : Own} {p : Nat} {S : OrgS} {mU nU kU mR nR kR : Value} {br pa : Nat} {ub rb : List (Option Nat)} {D : Nat → Prop}
theorem not_tab {x : Nat} {t : Part} (h : OrgG w own p S mU nU kU mR nR kR br pa ub rb D) (hx : own x = some t) : ¬ ((6 : Nat) = x ∨ (6 : Nat) = p) := by
  have h0 := h.otab
  rintro (hq | hq)
  · rw [hq, hx] at h0; cases h0
  · rw [hq, h.op] at h0; cases h0
theorem OrgG.turnBars (h : OrgG w own p S mU nU kU mR nR kR br pa ub rb D) {i b x : Nat} {u u' : UserS} {w' : World} (hb : ub[i]? = some (some b)) (hF : Fr (fun c => c = x ∨ c = p) w w')
    (hu : UserAt w' own i b u') (ep' : Nat) (hp : Blk w' p #[mU, nU, kU, .int .i64 64, mR, nR, kR, .int .i64 64, ptr br, ptr pa, .int .i64 S.now, .int .u64 ep'] 103) (hox : own x = some (.set false i)) :
    OrgG w' own p { S with uk := S.uk.set i (some u'), ep := ep' } mU nU kU mR nR kR br pa ub rb D := by
  have hne : ∀ c t, own c = some t → t ≠ .org → t ≠ .set false i → ¬ (c = x ∨ c = p) := by
    rintro c t hc h1 h2 (rfl | rfl)
    · rw [hox] at hc; injection hc with hc; exact h2 hc.symm
    · rw [h.op] at hc; injection hc with hc; exact h1 hc.symm
  exact ⟨hp, h.op, h.ru.fr hF fun c t hc ht => hne c t hc (by rcases ht with rfl | rfl | rfl <;> simp) (by rcases ht with rfl | rfl | rfl <;> simp),
    h.rr.fr hF fun c t hc ht => hne c t hc (by rcases ht with rfl | rfl | rfl <;> simp) (by rcases ht with rfl | rfl | rfl <;> simp),
    h.us.upd hb hu fun j c v hj _ hv => hv.fr hF (fun c t hc ht => hne c t hc (by rcases ht with rfl | rfl <;> simp) (by rcases ht with rfl | rfl <;> simp [hj])) (fun _ _ h => h),
    h.rs.mono fun j c v _ hv => hv.fr hF (fun c t hc ht => hne c t hc (by rcases ht with rfl | rfl <;> simp) (by rcases ht with rfl | rfl <;> simp)) (fun _ _ h => h),
    h.rk.fr hF (hne _ _ h.ork (by simp) (by simp)), h.ork, h.ag.fr hF fun c hc => hne _ _ (h.oag c hc) (by simp) (by simp), h.oag,
    fun c t hc => Nat.lt_of_lt_of_le (h.lt c t hc) hF.size, h.otab, h.tab.fr hF (not_tab h hox)⟩
theorem OrgG.turnDuties (h : OrgG w own p S mU nU kU mR nR kR br pa ub rb D) {i b x : Nat} {u' : List ByteArray} {w' : World} (hb : rb[i]? = some (some b)) (hF : Fr (fun c => c = x ∨ c = p) w w')
    (hu : RoleAt w' own i b u') (ep' : Nat) (hp : Blk w' p #[mU, nU, kU, .int .i64 64, mR, nR, kR, .int .i64 64, ptr br, ptr pa, .int .i64 S.now, .int .u64 ep'] 103) (hox : own x = some (.set true i)) :
    OrgG w' own p { S with rk := S.rk.set i (some u'), ep := ep' } mU nU kU mR nR kR br pa ub rb D := by
  have hne : ∀ c t, own c = some t → t ≠ .org → t ≠ .set true i → ¬ (c = x ∨ c = p) := by
    rintro c t hc h1 h2 (rfl | rfl)
    · rw [hox] at hc; injection hc with hc; exact h2 hc.symm
    · rw [h.op] at hc; injection hc with hc; exact h1 hc.symm
  exact ⟨hp, h.op, h.ru.fr hF fun c t hc ht => hne c t hc (by rcases ht with rfl | rfl | rfl <;> simp) (by rcases ht with rfl | rfl | rfl <;> simp),
    h.rr.fr hF fun c t hc ht => hne c t hc (by rcases ht with rfl | rfl | rfl <;> simp) (by rcases ht with rfl | rfl | rfl <;> simp),
    h.us.mono fun j c v _ hv => hv.fr hF (fun c t hc ht => hne c t hc (by rcases ht with rfl | rfl <;> simp) (by rcases ht with rfl | rfl <;> simp)) (fun _ _ h => h),
    h.rs.upd hb hu fun j c v hj _ hv => hv.fr hF (fun c t hc ht => hne c t hc (by rcases ht with rfl | rfl <;> simp) (by rcases ht with rfl | rfl <;> simp [hj])) (fun _ _ h => h),
    h.rk.fr hF (hne _ _ h.ork (by simp) (by simp)), h.ork, h.ag.fr hF fun c hc => hne _ _ (h.oag c hc) (by simp) (by simp), h.oag,
    fun c t hc => Nat.lt_of_lt_of_le (h.lt c t hc) hF.size, h.otab, h.tab.fr hF (not_tab h hox)⟩
end

/-- The count behind a call with a code. -/
def bump (k ep : Nat) : Nat := if k = 0 then ep + 1 else ep
/-- done, whatever the code. -/
theorem done_any (p ep k : Nat) (cs : Array Value) (w : World) (hp : Blk w p cs 103) (h11 : cs[11]? = some (.int .u64 ep)) (hep : ep < 1000000) : Calls Tryz.prog 59 #[ptr p, .int .i64 k] w fun e w' => e = .returned (.int .i64 k) ∧ Blk w' p (cs.setIfInBounds 11 (.int .u64 (bump k ep : Int))) 103 ∧ Fr (fun c => c = p) w w' := by
  unfold bump
  by_cases hk : k = 0
  · subst hk
    exact done_ok p ep cs w hp h11 hep
  · rw [if_neg hk]
    refine (done_bad p k w hk).mono ?_
    rintro e w' ⟨rfl, rfl⟩
    exact ⟨rfl, by rw [set_same h11]; exact hp, Fr.refl _ _⟩

def OrgS.grant (S : OrgS) (a d : ByteArray) : Nat × OrgS :=
  match S.findR a with
  | some (i, ds) => ((addSet ds d).1, { S with rk := S.rk.set i (some (addSet ds d).2), ep := bump (addSet ds d).1 S.ep })
  | none => (21, S)
def OrgS.revoke (S : OrgS) (a d : ByteArray) : Nat × OrgS :=
  match S.findR a with
  | some (i, ds) => ((dropSet ds d).1, { S with rk := S.rk.set i (some (dropSet ds d).2), ep := bump (dropSet ds d).1 S.ep })
  | none => (21, S)
def OrgS.bar (S : OrgS) (a d : ByteArray) : Nat × OrgS :=
  match S.findU a with
  | some (i, u) => ((addSet u.bars d).1, { S with uk := S.uk.set i (some { u with bars := (addSet u.bars d).2 }), ep := bump (addSet u.bars d).1 S.ep })
  | none => (20, S)
def OrgS.unbar (S : OrgS) (a d : ByteArray) : Nat × OrgS :=
  match S.findU a with
  | some (i, u) => ((dropSet u.bars d).1, { S with uk := S.uk.set i (some { u with bars := (dropSet u.bars d).2 }), ep := bump (dropSet u.bars d).1 S.ep })
  | none => (20, S)

set_option maxHeartbeats 4000000 in
theorem grant_hit (w : World) (p b i m k ep : Nat) (a d : ByteArray) (l l' : List ByteArray) (pcs : Array Value)
    (hm : Calls Tryz.prog 62 #[ptr p, .string a] w fun e w' => e = .returned (.tuple #[.int .i64 i, ptr b, .int .i64 0]) ∧ Ext w w')
    (hadd : ∀ W, Ext w W → Calls Tryz.prog 63 #[.map (some m), .string d, .int .i64 0] W fun e w' => e = .returned (.int .i64 k) ∧ SetAt w' m l' ∧ Fr (fun c => c = m) W w')
    (hb : Blk w b #[.map (some m)] 113) (hp : Blk w p pcs 103) (h11 : pcs[11]? = some (.int .u64 ep)) (hep : ep < 1000000) (hpm : p ≠ m) :
    Calls Tryz.prog 19 #[ptr p, .string a, .string d] w fun e w' => e = .returned (.int .i64 k) ∧ (∃ w2, SetAt w2 m l' ∧ Fr (fun c => c = p) w2 w') ∧
      Blk w' p (pcs.setIfInBounds 11 (.int .u64 (bump k ep : Int))) 103 ∧ Fr (fun c => c = m ∨ c = p) w w' := by
  have hb0 := (hb.cell 0).trans rfl
  have hs0 : ∀ W, Ext w W → W.cell? ⟨b, 0, none⟩ = some (.map (some m)) := fun W hW => (hW.cell (a := ⟨b, 0, none⟩) hb.lt id).trans hb0
  have HS0 := hid hs0
  have HP := hid hp
  have HH := hid h11
  have HA := hid hadd
  clear hb0 hs0 hb hp h11 hadd
  go_enter Tryz.func19, Tryz.ntmps19
  go_wp2_with (first | (go_at_call 62; refine hm.mono ?_; rintro r w1 ⟨rfl, hE⟩; have hc0 := HS0.out w1 hE; have HE := hid hE; clear hE) | (go_at_call 63; refine (HA.out _ HE.out).mono ?_; rintro r w2 ⟨rfl, hs2, hF2⟩; have HS2 := hid hs2; have HF2 := hid hF2; clear hs2 hF2) | (go_at_call 59; refine (done_any p ep k pcs _ ((HP.out.ext HE.out).fr HF2.out hpm) HH.out hep).mono ?_; rintro r w3 ⟨rfl, hp3, hF3⟩; have HP3 := hid hp3; have HF3 := hid hF3; clear hp3 hF3))
  go_ret
  exact ⟨rfl, ⟨w2, HS2.out, HF3.out⟩, HP3.out, ((HE.out.mono fun _ _ => False.elim : Fr (fun c => c = m ∨ c = p) w w1).trans' HF2.out fun _ _ h => .inl h).trans' HF3.out fun _ _ h => .inr h⟩
theorem grant_miss (w : World) (p : Nat) (a d : ByteArray)
    (hm : Calls Tryz.prog 62 #[ptr p, .string a] w fun e w' => ∃ b, e = .returned (.tuple #[.int .i64 0, ptr b, .int .i64 21]) ∧ Blk w' b #[.map none] 113 ∧ Ext w w' ∧ w.heap.size ≤ b) :
    Calls Tryz.prog 19 #[ptr p, .string a, .string d] w fun e w' => e = .returned (.int .i64 21) ∧ Ext w w' := by
  have hadd := fun W => add_none W d 21 (by decide)
  have hdone := fun W => done_bad p 21 W (by decide)
  go_enter Tryz.func19, Tryz.ntmps19
  go_wp2_with (first | (go_at_call 62; refine hm.mono ?_; rintro r w1 ⟨b, rfl, hb, hE, hbl⟩; have hc0 := (hb.cell 0).trans rfl; have HE := hid hE; clear hE hb) | (go_at_call 63; refine (hadd _).mono ?_; rintro r w2 ⟨rfl, hE2⟩; have HE2 := hid hE2; clear hE2) | (go_at_call 59; refine (hdone _).mono ?_; rintro r w3 ⟨rfl, rfl⟩))
  go_ret
  exact ⟨rfl, HE.out.trans HE2.out⟩
theorem grant_any {w : World} {own : Own} {p : Nat} {S : OrgS} (a d : ByteArray) (h : OrgAt w own p S) (hep : S.ep < 1000000) :
    Calls Tryz.prog 19 #[ptr p, .string a, .string d] w fun e w' => e = .returned (.int .i64 (S.grant a d).1) ∧ OrgPost w own p (S.grant a d).2 w' := by
  obtain ⟨mU, nU, kU, mR, nR, kR, br, pa, ub, rb, D, g⟩ := h
  have hA : OrgAt w own p S := ⟨mU, nU, kU, mR, nR, kR, br, pa, ub, rb, D, g⟩
  unfold OrgS.grant
  rcases g.findR a with ⟨i, b, u, h1, h2, hu, hub, huk, hi⟩ | ⟨h1, h2⟩
  · rw [h2]
    dsimp only
    have hm := g.role_hit h1
    obtain ⟨ho, m, hb, hom, hs⟩ := hu
    have hpm : p ≠ m := by
      rintro rfl
      rw [g.op] at hom
      cases hom
    have hbm : b ≠ m := by
      rintro rfl
      rw [ho] at hom
      cases hom
    have hbp : b ≠ p := item_ne ho g.op
    refine (grant_hit w p b i m (addSet u d).1 S.ep a d u (addSet u d).2 _ hm (fun W hW => add_any W m u d (hs.fr hW id)) hb g.blk rfl hep hpm).mono ?_
    rintro e w' ⟨rfl, ⟨w2, hs2, hF2⟩, hp', hF⟩
    refine ⟨rfl, own, ⟨_, _, _, _, _, _, _, _, _, _, _, g.turnDuties hub hF ?_ _ hp' hom⟩, hF.mono ?_, OwnGrow.refl _ _⟩
    · exact ⟨ho, m, hb.fr hF (by rintro (h | h); exact hbm h; exact hbp h), hom, hs2.fr hF2 (Ne.symm hpm)⟩
    · rintro c _ (rfl | rfl)
      · rw [hom]; simp
      · rw [g.op]; simp
  · rw [h2]
    dsimp only
    exact (grant_miss w p a d (g.role_miss h1)).mono fun e w' k => ⟨k.1, OrgPost.ext hA k.2⟩
set_option maxHeartbeats 4000000 in
theorem revoke_hit (w : World) (p b i m k ep : Nat) (a d : ByteArray) (l l' : List ByteArray) (pcs : Array Value)
    (hm : Calls Tryz.prog 62 #[ptr p, .string a] w fun e w' => e = .returned (.tuple #[.int .i64 i, ptr b, .int .i64 0]) ∧ Ext w w')
    (hadd : ∀ W, Ext w W → Calls Tryz.prog 171 #[.map (some m), .string d, .int .i64 0] W fun e w' => e = .returned (.int .i64 k) ∧ SetAt w' m l' ∧ Fr (fun c => c = m) W w')
    (hb : Blk w b #[.map (some m)] 113) (hp : Blk w p pcs 103) (h11 : pcs[11]? = some (.int .u64 ep)) (hep : ep < 1000000) (hpm : p ≠ m) :
    Calls Tryz.prog 87 #[ptr p, .string a, .string d] w fun e w' => e = .returned (.int .i64 k) ∧ (∃ w2, SetAt w2 m l' ∧ Fr (fun c => c = p) w2 w') ∧
      Blk w' p (pcs.setIfInBounds 11 (.int .u64 (bump k ep : Int))) 103 ∧ Fr (fun c => c = m ∨ c = p) w w' := by
  have hb0 := (hb.cell 0).trans rfl
  have hs0 : ∀ W, Ext w W → W.cell? ⟨b, 0, none⟩ = some (.map (some m)) := fun W hW => (hW.cell (a := ⟨b, 0, none⟩) hb.lt id).trans hb0
  have HS0 := hid hs0
  have HP := hid hp
  have HH := hid h11
  have HA := hid hadd
  clear hb0 hs0 hb hp h11 hadd
  go_enter Tryz.func87, Tryz.ntmps87
  go_wp2_with (first | (go_at_call 62; refine hm.mono ?_; rintro r w1 ⟨rfl, hE⟩; have hc0 := HS0.out w1 hE; have HE := hid hE; clear hE) | (go_at_call 171; refine (HA.out _ HE.out).mono ?_; rintro r w2 ⟨rfl, hs2, hF2⟩; have HS2 := hid hs2; have HF2 := hid hF2; clear hs2 hF2) | (go_at_call 59; refine (done_any p ep k pcs _ ((HP.out.ext HE.out).fr HF2.out hpm) HH.out hep).mono ?_; rintro r w3 ⟨rfl, hp3, hF3⟩; have HP3 := hid hp3; have HF3 := hid hF3; clear hp3 hF3))
  go_ret
  exact ⟨rfl, ⟨w2, HS2.out, HF3.out⟩, HP3.out, ((HE.out.mono fun _ _ => False.elim : Fr (fun c => c = m ∨ c = p) w w1).trans' HF2.out fun _ _ h => .inl h).trans' HF3.out fun _ _ h => .inr h⟩
theorem revoke_miss (w : World) (p : Nat) (a d : ByteArray)
    (hm : Calls Tryz.prog 62 #[ptr p, .string a] w fun e w' => ∃ b, e = .returned (.tuple #[.int .i64 0, ptr b, .int .i64 21]) ∧ Blk w' b #[.map none] 113 ∧ Ext w w' ∧ w.heap.size ≤ b) :
    Calls Tryz.prog 87 #[ptr p, .string a, .string d] w fun e w' => e = .returned (.int .i64 21) ∧ Ext w w' := by
  have hadd := fun W => drop_none W d 21 (by decide)
  have hdone := fun W => done_bad p 21 W (by decide)
  go_enter Tryz.func87, Tryz.ntmps87
  go_wp2_with (first | (go_at_call 62; refine hm.mono ?_; rintro r w1 ⟨b, rfl, hb, hE, hbl⟩; have hc0 := (hb.cell 0).trans rfl; have HE := hid hE; clear hE hb) | (go_at_call 171; refine (hadd _).mono ?_; rintro r w2 ⟨rfl, hE2⟩; have HE2 := hid hE2; clear hE2) | (go_at_call 59; refine (hdone _).mono ?_; rintro r w3 ⟨rfl, rfl⟩))
  go_ret
  exact ⟨rfl, HE.out.trans HE2.out⟩
theorem revoke_any {w : World} {own : Own} {p : Nat} {S : OrgS} (a d : ByteArray) (h : OrgAt w own p S) (hep : S.ep < 1000000) :
    Calls Tryz.prog 87 #[ptr p, .string a, .string d] w fun e w' => e = .returned (.int .i64 (S.revoke a d).1) ∧ OrgPost w own p (S.revoke a d).2 w' := by
  obtain ⟨mU, nU, kU, mR, nR, kR, br, pa, ub, rb, D, g⟩ := h
  have hA : OrgAt w own p S := ⟨mU, nU, kU, mR, nR, kR, br, pa, ub, rb, D, g⟩
  unfold OrgS.revoke
  rcases g.findR a with ⟨i, b, u, h1, h2, hu, hub, huk, hi⟩ | ⟨h1, h2⟩
  · rw [h2]
    dsimp only
    have hm := g.role_hit h1
    obtain ⟨ho, m, hb, hom, hs⟩ := hu
    have hpm : p ≠ m := by
      rintro rfl
      rw [g.op] at hom
      cases hom
    have hbm : b ≠ m := by
      rintro rfl
      rw [ho] at hom
      cases hom
    have hbp : b ≠ p := item_ne ho g.op
    refine (revoke_hit w p b i m (dropSet u d).1 S.ep a d u (dropSet u d).2 _ hm (fun W hW => drop_any W m u d (hs.fr hW id)) hb g.blk rfl hep hpm).mono ?_
    rintro e w' ⟨rfl, ⟨w2, hs2, hF2⟩, hp', hF⟩
    refine ⟨rfl, own, ⟨_, _, _, _, _, _, _, _, _, _, _, g.turnDuties hub hF ?_ _ hp' hom⟩, hF.mono ?_, OwnGrow.refl _ _⟩
    · exact ⟨ho, m, hb.fr hF (by rintro (h | h); exact hbm h; exact hbp h), hom, hs2.fr hF2 (Ne.symm hpm)⟩
    · rintro c _ (rfl | rfl)
      · rw [hom]; simp
      · rw [g.op]; simp
  · rw [h2]
    dsimp only
    exact (revoke_miss w p a d (g.role_miss h1)).mono fun e w' k => ⟨k.1, OrgPost.ext hA k.2⟩
set_option maxHeartbeats 4000000 in
theorem bar_hit (w : World) (p b i m k ep : Nat) (a d : ByteArray) (l l' : List ByteArray) (pcs : Array Value)
    (hm : Calls Tryz.prog 66 #[ptr p, .string a] w fun e w' => e = .returned (.tuple #[.int .i64 i, ptr b, .int .i64 0]) ∧ Ext w w')
    (hadd : ∀ W, Ext w W → Calls Tryz.prog 63 #[.map (some m), .string d, .int .i64 0] W fun e w' => e = .returned (.int .i64 k) ∧ SetAt w' m l' ∧ Fr (fun c => c = m) W w')
    (r : Nat) (t : Bool) (hb : Blk w b #[.int .u64 r, .map (some m), .bool t] 108) (hp : Blk w p pcs 103) (h11 : pcs[11]? = some (.int .u64 ep)) (hep : ep < 1000000) (hpm : p ≠ m) :
    Calls Tryz.prog 88 #[ptr p, .string a, .string d] w fun e w' => e = .returned (.int .i64 k) ∧ (∃ w2, SetAt w2 m l' ∧ Fr (fun c => c = p) w2 w') ∧
      Blk w' p (pcs.setIfInBounds 11 (.int .u64 (bump k ep : Int))) 103 ∧ Fr (fun c => c = m ∨ c = p) w w' := by
  have hb0 := (hb.cell 1).trans rfl
  have hs0 : ∀ W, Ext w W → W.cell? ⟨b, 1, none⟩ = some (.map (some m)) := fun W hW => (hW.cell (a := ⟨b, 1, none⟩) hb.lt id).trans hb0
  have HS0 := hid hs0
  have HP := hid hp
  have HH := hid h11
  have HA := hid hadd
  clear hb0 hs0 hb hp h11 hadd
  go_enter Tryz.func88, Tryz.ntmps88
  go_wp2_with (first | (go_at_call 66; refine hm.mono ?_; rintro r w1 ⟨rfl, hE⟩; have hc0 := HS0.out w1 hE; have HE := hid hE; clear hE) | (go_at_call 63; refine (HA.out _ HE.out).mono ?_; rintro r w2 ⟨rfl, hs2, hF2⟩; have HS2 := hid hs2; have HF2 := hid hF2; clear hs2 hF2) | (go_at_call 59; refine (done_any p ep k pcs _ ((HP.out.ext HE.out).fr HF2.out hpm) HH.out hep).mono ?_; rintro r w3 ⟨rfl, hp3, hF3⟩; have HP3 := hid hp3; have HF3 := hid hF3; clear hp3 hF3))
  go_ret
  exact ⟨rfl, ⟨w2, HS2.out, HF3.out⟩, HP3.out, ((HE.out.mono fun _ _ => False.elim : Fr (fun c => c = m ∨ c = p) w w1).trans' HF2.out fun _ _ h => .inl h).trans' HF3.out fun _ _ h => .inr h⟩
theorem bar_miss (w : World) (p : Nat) (a d : ByteArray)
    (hm : Calls Tryz.prog 66 #[ptr p, .string a] w fun e w' => ∃ b, e = .returned (.tuple #[.int .i64 0, ptr b, .int .i64 20]) ∧ Blk w' b #[.int .u64 0, .map none, .bool false] 108 ∧ Ext w w' ∧ w.heap.size ≤ b) :
    Calls Tryz.prog 88 #[ptr p, .string a, .string d] w fun e w' => e = .returned (.int .i64 20) ∧ Ext w w' := by
  have hadd := fun W => add_none W d 20 (by decide)
  have hdone := fun W => done_bad p 20 W (by decide)
  go_enter Tryz.func88, Tryz.ntmps88
  go_wp2_with (first | (go_at_call 66; refine hm.mono ?_; rintro r w1 ⟨b, rfl, hb, hE, hbl⟩; have hc0 := (hb.cell 1).trans rfl; have HE := hid hE; clear hE hb) | (go_at_call 63; refine (hadd _).mono ?_; rintro r w2 ⟨rfl, hE2⟩; have HE2 := hid hE2; clear hE2) | (go_at_call 59; refine (hdone _).mono ?_; rintro r w3 ⟨rfl, rfl⟩))
  go_ret
  exact ⟨rfl, HE.out.trans HE2.out⟩
theorem bar_any {w : World} {own : Own} {p : Nat} {S : OrgS} (a d : ByteArray) (h : OrgAt w own p S) (hep : S.ep < 1000000) :
    Calls Tryz.prog 88 #[ptr p, .string a, .string d] w fun e w' => e = .returned (.int .i64 (S.bar a d).1) ∧ OrgPost w own p (S.bar a d).2 w' := by
  obtain ⟨mU, nU, kU, mR, nR, kR, br, pa, ub, rb, D, g⟩ := h
  have hA : OrgAt w own p S := ⟨mU, nU, kU, mR, nR, kR, br, pa, ub, rb, D, g⟩
  unfold OrgS.bar
  rcases g.findU a with ⟨i, b, u, h1, h2, hu, hub, huk, hi⟩ | ⟨h1, h2⟩
  · rw [h2]
    dsimp only
    have hm := g.user_hit h1
    obtain ⟨ho, hr, m, hb, hom, hs⟩ := hu
    have hpm : p ≠ m := by
      rintro rfl
      rw [g.op] at hom
      cases hom
    have hbm : b ≠ m := by
      rintro rfl
      rw [ho] at hom
      cases hom
    have hbp : b ≠ p := item_ne ho g.op
    refine (bar_hit w p b i m (addSet u.bars d).1 S.ep a d u.bars (addSet u.bars d).2 _ hm (fun W hW => add_any W m u.bars d (hs.fr hW id)) u.roles u.rests hb g.blk rfl hep hpm).mono ?_
    rintro e w' ⟨rfl, ⟨w2, hs2, hF2⟩, hp', hF⟩
    refine ⟨rfl, own, ⟨_, _, _, _, _, _, _, _, _, _, _, g.turnBars (u := u) (u' := { u with bars := (addSet u.bars d).2 }) hub hF ?_ _ hp' hom⟩, hF.mono ?_, OwnGrow.refl _ _⟩
    · exact ⟨ho, hr, m, hb.fr hF (by rintro (h | h); exact hbm h; exact hbp h), hom, hs2.fr hF2 (Ne.symm hpm)⟩
    · rintro c _ (rfl | rfl)
      · rw [hom]; simp
      · rw [g.op]; simp
  · rw [h2]
    dsimp only
    exact (bar_miss w p a d (g.user_miss h1)).mono fun e w' k => ⟨k.1, OrgPost.ext hA k.2⟩
set_option maxHeartbeats 4000000 in
theorem unbar_hit (w : World) (p b i m k ep : Nat) (a d : ByteArray) (l l' : List ByteArray) (pcs : Array Value)
    (hm : Calls Tryz.prog 66 #[ptr p, .string a] w fun e w' => e = .returned (.tuple #[.int .i64 i, ptr b, .int .i64 0]) ∧ Ext w w')
    (hadd : ∀ W, Ext w W → Calls Tryz.prog 171 #[.map (some m), .string d, .int .i64 0] W fun e w' => e = .returned (.int .i64 k) ∧ SetAt w' m l' ∧ Fr (fun c => c = m) W w')
    (r : Nat) (t : Bool) (hb : Blk w b #[.int .u64 r, .map (some m), .bool t] 108) (hp : Blk w p pcs 103) (h11 : pcs[11]? = some (.int .u64 ep)) (hep : ep < 1000000) (hpm : p ≠ m) :
    Calls Tryz.prog 89 #[ptr p, .string a, .string d] w fun e w' => e = .returned (.int .i64 k) ∧ (∃ w2, SetAt w2 m l' ∧ Fr (fun c => c = p) w2 w') ∧
      Blk w' p (pcs.setIfInBounds 11 (.int .u64 (bump k ep : Int))) 103 ∧ Fr (fun c => c = m ∨ c = p) w w' := by
  have hb0 := (hb.cell 1).trans rfl
  have hs0 : ∀ W, Ext w W → W.cell? ⟨b, 1, none⟩ = some (.map (some m)) := fun W hW => (hW.cell (a := ⟨b, 1, none⟩) hb.lt id).trans hb0
  have HS0 := hid hs0
  have HP := hid hp
  have HH := hid h11
  have HA := hid hadd
  clear hb0 hs0 hb hp h11 hadd
  go_enter Tryz.func89, Tryz.ntmps89
  go_wp2_with (first | (go_at_call 66; refine hm.mono ?_; rintro r w1 ⟨rfl, hE⟩; have hc0 := HS0.out w1 hE; have HE := hid hE; clear hE) | (go_at_call 171; refine (HA.out _ HE.out).mono ?_; rintro r w2 ⟨rfl, hs2, hF2⟩; have HS2 := hid hs2; have HF2 := hid hF2; clear hs2 hF2) | (go_at_call 59; refine (done_any p ep k pcs _ ((HP.out.ext HE.out).fr HF2.out hpm) HH.out hep).mono ?_; rintro r w3 ⟨rfl, hp3, hF3⟩; have HP3 := hid hp3; have HF3 := hid hF3; clear hp3 hF3))
  go_ret
  exact ⟨rfl, ⟨w2, HS2.out, HF3.out⟩, HP3.out, ((HE.out.mono fun _ _ => False.elim : Fr (fun c => c = m ∨ c = p) w w1).trans' HF2.out fun _ _ h => .inl h).trans' HF3.out fun _ _ h => .inr h⟩
theorem unbar_miss (w : World) (p : Nat) (a d : ByteArray)
    (hm : Calls Tryz.prog 66 #[ptr p, .string a] w fun e w' => ∃ b, e = .returned (.tuple #[.int .i64 0, ptr b, .int .i64 20]) ∧ Blk w' b #[.int .u64 0, .map none, .bool false] 108 ∧ Ext w w' ∧ w.heap.size ≤ b) :
    Calls Tryz.prog 89 #[ptr p, .string a, .string d] w fun e w' => e = .returned (.int .i64 20) ∧ Ext w w' := by
  have hadd := fun W => drop_none W d 20 (by decide)
  have hdone := fun W => done_bad p 20 W (by decide)
  go_enter Tryz.func89, Tryz.ntmps89
  go_wp2_with (first | (go_at_call 66; refine hm.mono ?_; rintro r w1 ⟨b, rfl, hb, hE, hbl⟩; have hc0 := (hb.cell 1).trans rfl; have HE := hid hE; clear hE hb) | (go_at_call 171; refine (hadd _).mono ?_; rintro r w2 ⟨rfl, hE2⟩; have HE2 := hid hE2; clear hE2) | (go_at_call 59; refine (hdone _).mono ?_; rintro r w3 ⟨rfl, rfl⟩))
  go_ret
  exact ⟨rfl, HE.out.trans HE2.out⟩
theorem unbar_any {w : World} {own : Own} {p : Nat} {S : OrgS} (a d : ByteArray) (h : OrgAt w own p S) (hep : S.ep < 1000000) :
    Calls Tryz.prog 89 #[ptr p, .string a, .string d] w fun e w' => e = .returned (.int .i64 (S.unbar a d).1) ∧ OrgPost w own p (S.unbar a d).2 w' := by
  obtain ⟨mU, nU, kU, mR, nR, kR, br, pa, ub, rb, D, g⟩ := h
  have hA : OrgAt w own p S := ⟨mU, nU, kU, mR, nR, kR, br, pa, ub, rb, D, g⟩
  unfold OrgS.unbar
  rcases g.findU a with ⟨i, b, u, h1, h2, hu, hub, huk, hi⟩ | ⟨h1, h2⟩
  · rw [h2]
    dsimp only
    have hm := g.user_hit h1
    obtain ⟨ho, hr, m, hb, hom, hs⟩ := hu
    have hpm : p ≠ m := by
      rintro rfl
      rw [g.op] at hom
      cases hom
    have hbm : b ≠ m := by
      rintro rfl
      rw [ho] at hom
      cases hom
    have hbp : b ≠ p := item_ne ho g.op
    refine (unbar_hit w p b i m (dropSet u.bars d).1 S.ep a d u.bars (dropSet u.bars d).2 _ hm (fun W hW => drop_any W m u.bars d (hs.fr hW id)) u.roles u.rests hb g.blk rfl hep hpm).mono ?_
    rintro e w' ⟨rfl, ⟨w2, hs2, hF2⟩, hp', hF⟩
    refine ⟨rfl, own, ⟨_, _, _, _, _, _, _, _, _, _, _, g.turnBars (u := u) (u' := { u with bars := (dropSet u.bars d).2 }) hub hF ?_ _ hp' hom⟩, hF.mono ?_, OwnGrow.refl _ _⟩
    · exact ⟨ho, hr, m, hb.fr hF (by rintro (h | h); exact hbm h; exact hbp h), hom, hs2.fr hF2 (Ne.symm hpm)⟩
    · rintro c _ (rfl | rfl)
      · rw [hom]; simp
      · rw [g.op]; simp
  · rw [h2]
    dsimp only
    exact (unbar_miss w p a d (g.user_miss h1)).mono fun e w' k => ⟨k.1, OrgPost.ext hA k.2⟩
end Go.Proofs.YtnippamifihdpaaGreatDoor
namespace Go.Proofs.YtnippamifihdpaaGreatDoor
open Go Go.RowKit
set_option linter.unusedVariables false

/-- What an add answers: the number, the code. -/
def addCode {α : Type} (names : List ByteArray) (ks : List (Option α)) (name : ByteArray) : Nat × Nat :=
  if legalB name = false then (0, 4) else if name ∈ names then (match ks.getD (names.idxOf name) none with | some _ => (0, 5) | none => (names.idxOf name, 0))
  else if names.length = 64 then (0, 2) else (names.length, 0)
def addNext {α : Type} (names : List ByteArray) (ks : List (Option α)) (name : ByteArray) (x : α) : List ByteArray × List (Option α) :=
  if legalB name = false then (names, ks) else if name ∈ names then (match ks.getD (names.idxOf name) none with | some _ => (names, ks) | none => (names, ks.set (names.idxOf name) (some x)))
  else if names.length = 64 then (names, ks) else (names ++ [name], ks ++ [some x])
def OrgS.user (S : OrgS) (a : ByteArray) : (Nat × Nat) × OrgS :=
  (addCode S.un S.uk a, { S with un := (addNext S.un S.uk a ⟨0, [], false⟩).1, uk := (addNext S.un S.uk a ⟨0, [], false⟩).2, ep := bump (addCode S.un S.uk a).2 S.ep })
def OrgS.role (S : OrgS) (a : ByteArray) : (Nat × Nat) × OrgS :=
  (addCode S.rn S.rk a, { S with rn := (addNext S.rn S.rk a []).1, rk := (addNext S.rn S.rk a []).2, ep := bump (addCode S.rn S.rk a).2 S.ep })

theorem items_at {α : Type} {P : Nat → Nat → α → Prop} {kb : List (Option Nat)} {ks : List (Option α)} (h : Items P kb ks) {i : Nat} (hi : i < kb.length) :
    (kb.getD i none = none ∧ ks.getD i none = none) ∨ ∃ b u, kb.getD i none = some b ∧ ks.getD i none = some u := by
  obtain ⟨x, hx⟩ : ∃ x, kb[i]? = some x := ⟨kb[i]'hi, List.getElem?_eq_getElem hi⟩
  rw [List.getD_eq_getElem?_getD, List.getD_eq_getElem?_getD, hx]
  cases x with
  | none => rw [h.none_ i hx]; exact .inl ⟨rfl, rfl⟩
  | some b =>
    obtain ⟨u, hu, _⟩ := h.some_ i b hx
    rw [hu]
    exact .inr ⟨b, u, rfl, rfl⟩
/-- The register's answer is the organisation's; and what is known behind it. -/
theorem add_items {α : Type} {P P' : Nat → Nat → α → Prop} {names : List ByteArray} {kb : List (Option Nat)} {ks : List (Option α)} (h : Items P kb ks) (hl : kb.length = names.length) (name : ByteArray) (b : Nat) (x : α) :
    regAdd names kb name = addCode names ks name ∧ (regNext names kb name b).1 = (addNext names ks name x).1 ∧
      (((addCode names ks name).2 ≠ 0 ∧ (regNext names kb name b).2 = kb ∧ (addNext names ks name x).2 = ks) ∨
       ((addCode names ks name).2 = 0 ∧ ∃ i, (addCode names ks name).1 = i ∧ ((P' i b x → (∀ j c v, j ≠ i → kb[j]? = some (some c) → P j c v → P' j c v) → Items P' (regNext names kb name b).2 (addNext names ks name x).2)))) := by
  unfold regAdd addCode regNext addNext
  cases hleg : legalB name
  · simp only [if_true]
    exact ⟨trivial, trivial, .inl ⟨by decide, trivial, trivial⟩⟩
  · simp only [Bool.true_eq_false, if_false]
    by_cases hin : name ∈ names
    · simp only [if_pos hin]
      have hlt := idxOf_lt hin
      rcases items_at h (i := names.idxOf name) (by omega) with ⟨h1, h2⟩ | ⟨b', u, h1, h2⟩
      · rw [h1, h2]
        exact ⟨rfl, rfl, .inr ⟨rfl, _, rfl, fun hP hO => h.set (by omega) hP hO⟩⟩
      · rw [h1, h2]
        exact ⟨rfl, rfl, .inl ⟨by show (5 : Nat) ≠ 0; decide, rfl, rfl⟩⟩
    · simp only [if_neg hin]
      by_cases hf : names.length = 64
      · simp only [if_pos hf]
        exact ⟨trivial, trivial, .inl ⟨by decide, trivial, trivial⟩⟩
      · simp only [if_neg hf]
        refine ⟨trivial, trivial, .inr ⟨trivial, _, rfl, fun hP hO => h.push (by rw [hl]; exact hP) fun j c v hc hv => hO j c v ?_ hc hv⟩⟩
        have := (List.getElem?_eq_some_iff.1 hc).1
        omega

set_option maxRecDepth 100000 in
set_option maxHeartbeats 2000000 in
theorem userNew_walk {w : World} {own : Own} {p : Nat} {S : OrgS} {mU nU kU mR nR kR : Value} {br pa : Nat} {ub rb : List (Option Nat)} {D : Nat → Prop} (a : ByteArray) (h : OrgG w own p S mU nU kU mR nR kR br pa ub rb D) (hep : S.ep < 1000000) :
    Calls Tryz.prog 16 #[ptr p, .string a] w fun e w' => e = .returned (.tuple #[.int .i64 (addCode S.un S.uk a).1, .int .i64 (addCode S.un S.uk a).2]) ∧
      ∃ w1 w2 own' n' k', Ext w w1 ∧ w1.heap.size = w.heap.size + 2 ∧ SetAt w1 w.heap.size [] ∧ Blk w1 (w.heap.size + 1) #[.int .u64 0, .map (some w.heap.size), .bool false] 108 ∧
        RegAt w2 own' false 109 mU n' k' (regNext S.un ub a (w.heap.size + 1)).1 (regNext S.un ub a (w.heap.size + 1)).2 ∧
        Fr (fun c => c = p ∨ own c = some (.map false) ∨ own c = some (.names false) ∨ own c = some (.known false)) w1 w2 ∧ OwnGrow w1 own own' ∧ (∀ c t, own' c = some t → c < w2.heap.size) ∧
        Blk w' p #[mU, n', k', .int .i64 64, mR, nR, kR, .int .i64 64, ptr br, ptr pa, .int .i64 S.now, .int .u64 (bump (addCode S.un S.uk a).2 S.ep)] 103 ∧ Fr (fun c => c = p) w2 w' := by
  have hmm := @run_makeMap Tryz.prog
  have hE1 : Ext w ((w.alloc (.map #[] 0)).alloc (.cells #[.int .u64 0, .map (some w.heap.size), .bool false] 108)) := ((Ext.refl w).alloc _).alloc _
  have HSZ : Hid (((w.alloc (.map #[] 0)).alloc (.cells #[.int .u64 0, .map (some w.heap.size), .bool false] 108)).heap.size = w.heap.size + 2) := hid (by simp)
  have HSM : Hid (SetAt ((w.alloc (.map #[] 0)).alloc (.cells #[.int .u64 0, .map (some w.heap.size), .bool false] 108)) w.heap.size []) := hid
    ⟨#[], 0, (Below.heap_alloc _ _ _ (by simp)).trans (heap_alloc_new w _), by simp [pairsOf], by simp, Go.MapKept.stamped_empty 0, by simp⟩
  have HSB : Hid (Blk ((w.alloc (.map #[] 0)).alloc (.cells #[.int .u64 0, .map (some w.heap.size), .bool false] 108)) (w.heap.size + 1) #[.int .u64 0, .map (some w.heap.size), .bool false] 108) := hid (by
    have := Blk.new (w.alloc (.map #[] 0)) #[.int .u64 0, .map (some w.heap.size), .bool false] 108
    rwa [show (w.alloc (.map #[] 0)).heap.size = w.heap.size + 1 from by simp] at this)
  obtain ⟨w1, hw1⟩ : ∃ w1, (w.alloc (.map #[] 0)).alloc (.cells #[.int .u64 0, .map (some w.heap.size), .bool false] 108) = w1 := ⟨_, rfl⟩
  rw [hw1] at hE1 HSZ HSM HSB
  have h1 := h.ext hE1
  have hadd := addU_any w1 own p (w.heap.size + 1) _ mU nU kU S.un ub a h1.ru h1.blk rfl rfl rfl rfl h.op h1.lt
  rw [(add_items (P' := fun _ _ _ => True) h.us h.ru.len a (w.heap.size + 1) ⟨0, [], false⟩).1] at hadd
  obtain ⟨i, hi⟩ : ∃ i, (addCode S.un S.uk a).1 = i := ⟨_, rfl⟩
  obtain ⟨k, hk⟩ : ∃ k, (addCode S.un S.uk a).2 = k := ⟨_, rfl⟩
  rw [hi, hk] at hadd ⊢
  have HE1 := hid hE1
  have HW := hid hw1
  clear h h1 hE1 hi hk hw1
  go_enter Tryz.func16, Tryz.ntmps16
  go_wp2_with (first | (go_at_call 58; rw [HW.out]; refine hadd.mono ?_; rintro r w2 ⟨rfl, hP⟩; obtain ⟨own', n', k', hR, hp2, hF, hG, hlt⟩ := hP; have HR := hid hR; have HP2 := hid hp2; have HF := hid hF; have HG := hid hG; have HLT := hid hlt; clear hR hp2 hF hG hlt) | (go_at_call 59; refine (done_any p S.ep k _ _ HP2.out rfl hep).mono ?_; rintro r w3 ⟨rfl, hp3, hF3⟩; have HP3 := hid hp3; have HF3 := hid hF3; clear hp3 hF3))
  go_ret2
  exact ⟨rfl, w1, w2, own', n', k', HE1.out, HSZ.out, HSM.out, HSB.out, HR.out, HF.out, HG.out, HLT.out, HP3.out, HF3.out⟩

/-- A register that has turned, and the items beside it. -/
theorem OrgG.newU {w : World} {own : Own} {p : Nat} {S : OrgS} {mU nU kU mR nR kR : Value} {br pa : Nat} {ub rb : List (Option Nat)} {D : Nat → Prop} (h : OrgG w own p S mU nU kU mR nR kR br pa ub rb D)
    {w' : World} {own' : Own} {X : Nat → Prop} {n' k' : Value} {names : List ByteArray} {kb : List (Option Nat)} {ks : List (Option UserS)} (ep' : Nat) (hF : Fr X w w') (hX : ∀ c t, own c = some t → t ≠ .org → t ≠ .map false → t ≠ .names false → t ≠ .known false → ¬ X c)
    (htX : ¬ X 6) (hG : OwnGrow w own own') (hlt : ∀ c t, own' c = some t → c < w'.heap.size) (hR : RegAt w' own' false 109 mU n' k' names kb) (hI : Items (UserAt w' own') kb ks)
    (hp : Blk w' p #[mU, n', k', .int .i64 64, mR, nR, kR, .int .i64 64, ptr br, ptr pa, .int .i64 S.now, .int .u64 ep'] 103) :
    OrgG w' own' p { S with un := names, uk := ks, ep := ep' } mU n' k' mR nR kR br pa kb rb D :=
  ⟨hp, hG.1 _ _ h.op, hR, (h.rr.fr hF fun c t hc ht => hX c t hc (by rcases ht with rfl | rfl | rfl <;> simp) (by rcases ht with rfl | rfl | rfl <;> simp) (by rcases ht with rfl | rfl | rfl <;> simp) (by rcases ht with rfl | rfl | rfl <;> simp)).own_mono hG.1, hI,
    h.rs.mono fun j c v _ hv => hv.fr hF (fun c t hc ht => hX c t hc (by rcases ht with rfl | rfl <;> simp) (by rcases ht with rfl | rfl <;> simp) (by rcases ht with rfl | rfl <;> simp) (by rcases ht with rfl | rfl <;> simp)) hG.1,
    h.rk.fr hF (hX _ _ h.ork (by simp) (by simp) (by simp) (by simp)), hG.1 _ _ h.ork, h.ag.fr hF fun c hc => hX _ _ (h.oag c hc) (by simp) (by simp) (by simp) (by simp), fun c hc => hG.1 _ _ (h.oag c hc), hlt,
    by
      cases hq : own' 6 with
      | none => rfl
      | some t =>
        rcases hG.2 _ t hq with h1 | h1
        · rw [h.otab] at h1; cases h1
        · have := World.block_lt_of_cell? w ⟨6, 0, none⟩ (h.tab 0 (by decide))
          have h2 : 6 < w.heap.size := this
          omega,
    h.tab.fr hF htX⟩

theorem user_any {w : World} {own : Own} {p : Nat} {S : OrgS} (a : ByteArray) (h : OrgAt w own p S) (hep : S.ep < 1000000) :
    Calls Tryz.prog 16 #[ptr p, .string a] w fun e w' => e = .returned (.tuple #[.int .i64 (S.user a).1.1, .int .i64 (S.user a).1.2]) ∧ OrgPost w own p (S.user a).2 w' := by
  obtain ⟨mU, nU, kU, mR, nR, kR, br, pa, ub, rb, D, g⟩ := h
  refine (userNew_walk a g hep).mono ?_
  rintro e w' ⟨rfl, w1, w2, own', n', k', hE, hsz, hm, hb, hR, hF, hG, hlt, hp, hF3⟩
  refine ⟨rfl, ?_⟩
  have hsz2 := hF.size
  have hG0 : OwnGrow w own own' := ⟨hG.1, fun c t hc => (hG.2 c t hc).imp id fun h => by omega⟩
  have hX : Fr (fun c => c = p ∨ own c = some (.map false) ∨ own c = some (.names false) ∨ own c = some (.known false)) w w' := ((hE.mono fun _ _ => False.elim).trans hF).trans' hF3 fun _ _ h => .inl h
  have hXn : ∀ c t, own c = some t → t ≠ .org → t ≠ .map false → t ≠ .names false → t ≠ .known false → ¬ (c = p ∨ own c = some (.map false) ∨ own c = some (.names false) ∨ own c = some (.known false)) := by
    rintro c t hc h1 h2 h3 h4 (rfl | hq | hq | hq)
    · rw [g.op] at hc; injection hc with hc; exact h1 hc.symm
    · rw [hq] at hc; injection hc with hc; exact h2 hc.symm
    · rw [hq] at hc; injection hc with hc; exact h3 hc.symm
    · rw [hq] at hc; injection hc with hc; exact h4 hc.symm
  have htX : ¬ ((6 : Nat) = p ∨ own 6 = some (.map false) ∨ own 6 = some (.names false) ∨ own 6 = some (.known false)) := by
    have h0 := g.otab
    rintro (hq | hq | hq | hq)
    · rw [hq, g.op] at h0; cases h0
    · rw [hq] at h0; cases h0
    · rw [hq] at h0; cases h0
    · rw [hq] at h0; cases h0
  have hop' : own' p = some .org := hG.1 _ _ g.op
  have hR' : RegAt w' own' false 109 mU n' k' (regNext S.un ub a (w.heap.size + 1)).1 (regNext S.un ub a (w.heap.size + 1)).2 := hR.fr hF3 fun c t hc ht hcp => by
    rw [hcp, hop'] at hc
    injection hc with hc
    subst hc
    rcases ht with ht | ht | ht <;> cases ht
  obtain ⟨_, hnm, hcase⟩ := add_items (P' := UserAt w' ((own'.put w.heap.size (.set false (addCode S.un S.uk a).1)).put (w.heap.size + 1) (.item false (addCode S.un S.uk a).1))) g.us g.ru.len a (w.heap.size + 1) ⟨0, [], false⟩
  rw [hnm] at hR'
  rcases hcase with ⟨hk, hkb, hks⟩ | ⟨hk, i, hi, hit⟩
  · refine ⟨own', ⟨_, _, _, _, _, _, _, _, _, _, _, g.newU _ hX hXn htX hG0 (fun c t hc => Nat.lt_of_lt_of_le (hlt c t hc) hF3.size) hR' ?_ hp⟩, ?_, hG0⟩
    · rw [hkb, hks]
      exact g.us.mono fun j c v _ hv => hv.fr hX (fun c t hc ht => hXn c t hc (by rcases ht with rfl | rfl <;> simp) (by rcases ht with rfl | rfl <;> simp) (by rcases ht with rfl | rfl <;> simp) (by rcases ht with rfl | rfl <;> simp)) hG.1
    · exact hX.mono (by
        rintro c _ (rfl | hq | hq | hq)
        · rw [g.op]; simp
        · rw [hq]; simp
        · rw [hq]; simp
        · rw [hq]; simp)
  · subst hi
    obtain ⟨i, hi⟩ : ∃ i, (addCode S.un S.uk a).1 = i := ⟨_, rfl⟩
    rw [hi] at hit
    have hno : ∀ c, w.heap.size ≤ c → c < w.heap.size + 2 → own c = none ∧ own' c = none := fun c hc hc2 => by
      have h0 : own c = none := by
        cases hq : own c with
        | none => rfl
        | some t => have := g.lt c t hq; omega
      refine ⟨h0, ?_⟩
      cases hq : own' c with
      | none => rfl
      | some t =>
        rcases hG.2 c t hq with h1 | h1
        · rw [h0] at h1; cases h1
        · omega
    have n0 := hno w.heap.size (Nat.le_refl _) (by omega)
    have n1 := hno (w.heap.size + 1) (by omega) (by omega)
    have m1 : (own'.put w.heap.size (.set false i)) (w.heap.size + 1) = none := by unfold Own.put; rw [if_neg (by omega)]; exact n1.2
    have GA : OwnGrow w own' (own'.put w.heap.size (.set false i)) := OwnGrow.put (.inr ⟨n0.2, Nat.le_refl _⟩)
    have GB : OwnGrow w (own'.put w.heap.size (.set false i)) ((own'.put w.heap.size (.set false i)).put (w.heap.size + 1) (.item false i)) := OwnGrow.put (.inr ⟨m1, by omega⟩)
    have GC := GA.trans GB (Nat.le_refl _)
    have GD := hG0.trans GC (Nat.le_refl _)
    have hw' := hF3.size
    have hlt' := Own.put_lt (b := w.heap.size + 1) (t := .item false i) (Own.put_lt (b := w.heap.size) (t := .set false i) (fun c t hc => Nat.lt_of_lt_of_le (hlt c t hc) hF3.size) (by omega)) (by omega)
    have hps := g.blk.lt
    have hnw : ∀ c, w.heap.size ≤ c → c < w.heap.size + 2 → ¬ (c = p ∨ own c = some (.map false) ∨ own c = some (.names false) ∨ own c = some (.known false)) := by
      intro c h1 h2
      have h3 := (hno c h1 h2).1
      rintro (hq | hq | hq | hq)
      · omega
      · rw [hq] at h3; cases h3
      · rw [hq] at h3; cases h3
      · rw [hq] at h3; cases h3
    have FX := hF.trans' hF3 fun _ _ h => Or.inl h
    have hnewU : UserAt w' ((own'.put w.heap.size (.set false i)).put (w.heap.size + 1) (.item false i)) i (w.heap.size + 1) ⟨0, [], false⟩ :=
      ⟨Own.put_self _ _ _, by decide, w.heap.size, hb.fr FX (hnw _ (by omega) (by omega)), GB.1 _ _ (Own.put_self _ _ _), hm.fr FX (hnw _ (by omega) (by omega))⟩
    have hItems := hit hnewU fun j c v hj _ hv => hv.fr hX (fun c t hc ht => hXn c t hc (by rcases ht with rfl | rfl <;> simp) (by rcases ht with rfl | rfl <;> simp) (by rcases ht with rfl | rfl <;> simp) (by rcases ht with rfl | rfl <;> simp)) GD.1
    refine ⟨_, ⟨_, _, _, _, _, _, _, _, _, _, _, g.newU _ hX hXn htX GD hlt' (hR'.own_mono GC.1) hItems hp⟩, ?_, GD⟩
    exact hX.mono (by
      rintro c _ (rfl | hq | hq | hq)
      · rw [g.op]; simp
      · rw [hq]; simp
      · rw [hq]; simp
      · rw [hq]; simp)
set_option maxRecDepth 100000 in
set_option maxHeartbeats 2000000 in
theorem roleNew_walk {w : World} {own : Own} {p : Nat} {S : OrgS} {mU nU kU mR nR kR : Value} {br pa : Nat} {ub rb : List (Option Nat)} {D : Nat → Prop} (a : ByteArray) (h : OrgG w own p S mU nU kU mR nR kR br pa ub rb D) (hep : S.ep < 1000000) :
    Calls Tryz.prog 17 #[ptr p, .string a] w fun e w' => e = .returned (.tuple #[.int .i64 (addCode S.rn S.rk a).1, .int .i64 (addCode S.rn S.rk a).2]) ∧
      ∃ w1 w2 own' n' k', Ext w w1 ∧ w1.heap.size = w.heap.size + 2 ∧ SetAt w1 w.heap.size [] ∧ Blk w1 (w.heap.size + 1) #[.map (some w.heap.size)] 113 ∧
        RegAt w2 own' true 114 mR n' k' (regNext S.rn rb a (w.heap.size + 1)).1 (regNext S.rn rb a (w.heap.size + 1)).2 ∧
        Fr (fun c => c = p ∨ own c = some (.map true) ∨ own c = some (.names true) ∨ own c = some (.known true)) w1 w2 ∧ OwnGrow w1 own own' ∧ (∀ c t, own' c = some t → c < w2.heap.size) ∧
        Blk w' p #[mU, nU, kU, .int .i64 64, mR, n', k', .int .i64 64, ptr br, ptr pa, .int .i64 S.now, .int .u64 (bump (addCode S.rn S.rk a).2 S.ep)] 103 ∧ Fr (fun c => c = p) w2 w' := by
  have hmm := @run_makeMap Tryz.prog
  have hE1 : Ext w ((w.alloc (.map #[] 0)).alloc (.cells #[.map (some w.heap.size)] 113)) := ((Ext.refl w).alloc _).alloc _
  have HSZ : Hid (((w.alloc (.map #[] 0)).alloc (.cells #[.map (some w.heap.size)] 113)).heap.size = w.heap.size + 2) := hid (by simp)
  have HSM : Hid (SetAt ((w.alloc (.map #[] 0)).alloc (.cells #[.map (some w.heap.size)] 113)) w.heap.size []) := hid
    ⟨#[], 0, (Below.heap_alloc _ _ _ (by simp)).trans (heap_alloc_new w _), by simp [pairsOf], by simp, Go.MapKept.stamped_empty 0, by simp⟩
  have HSB : Hid (Blk ((w.alloc (.map #[] 0)).alloc (.cells #[.map (some w.heap.size)] 113)) (w.heap.size + 1) #[.map (some w.heap.size)] 113) := hid (by
    have := Blk.new (w.alloc (.map #[] 0)) #[.map (some w.heap.size)] 113
    rwa [show (w.alloc (.map #[] 0)).heap.size = w.heap.size + 1 from by simp] at this)
  obtain ⟨w1, hw1⟩ : ∃ w1, (w.alloc (.map #[] 0)).alloc (.cells #[.map (some w.heap.size)] 113) = w1 := ⟨_, rfl⟩
  rw [hw1] at hE1 HSZ HSM HSB
  have h1 := h.ext hE1
  have hadd := addR_any w1 own p (w.heap.size + 1) _ mR nR kR S.rn rb a h1.rr h1.blk rfl rfl rfl rfl h.op h1.lt
  rw [(add_items (P' := fun _ _ _ => True) h.rs h.rr.len a (w.heap.size + 1) []).1] at hadd
  obtain ⟨i, hi⟩ : ∃ i, (addCode S.rn S.rk a).1 = i := ⟨_, rfl⟩
  obtain ⟨k, hk⟩ : ∃ k, (addCode S.rn S.rk a).2 = k := ⟨_, rfl⟩
  rw [hi, hk] at hadd ⊢
  have HE1 := hid hE1
  have HW := hid hw1
  clear h h1 hE1 hi hk hw1
  go_enter Tryz.func17, Tryz.ntmps17
  go_wp2_with (first | (go_at_call 60; rw [HW.out]; refine hadd.mono ?_; rintro r w2 ⟨rfl, hP⟩; obtain ⟨own', n', k', hR, hp2, hF, hG, hlt⟩ := hP; have HR := hid hR; have HP2 := hid hp2; have HF := hid hF; have HG := hid hG; have HLT := hid hlt; clear hR hp2 hF hG hlt) | (go_at_call 59; refine (done_any p S.ep k _ _ HP2.out rfl hep).mono ?_; rintro r w3 ⟨rfl, hp3, hF3⟩; have HP3 := hid hp3; have HF3 := hid hF3; clear hp3 hF3))
  go_ret2
  exact ⟨rfl, w1, w2, own', n', k', HE1.out, HSZ.out, HSM.out, HSB.out, HR.out, HF.out, HG.out, HLT.out, HP3.out, HF3.out⟩

/-- A register that has turned, and the items beside it. -/
theorem OrgG.newR {w : World} {own : Own} {p : Nat} {S : OrgS} {mU nU kU mR nR kR : Value} {br pa : Nat} {ub rb : List (Option Nat)} {D : Nat → Prop} (h : OrgG w own p S mU nU kU mR nR kR br pa ub rb D)
    {w' : World} {own' : Own} {X : Nat → Prop} {n' k' : Value} {names : List ByteArray} {kb : List (Option Nat)} {ks : List (Option (List ByteArray))} (ep' : Nat) (hF : Fr X w w') (hX : ∀ c t, own c = some t → t ≠ .org → t ≠ .map true → t ≠ .names true → t ≠ .known true → ¬ X c)
    (htX : ¬ X 6) (hG : OwnGrow w own own') (hlt : ∀ c t, own' c = some t → c < w'.heap.size) (hR : RegAt w' own' true 114 mR n' k' names kb) (hI : Items (RoleAt w' own') kb ks)
    (hp : Blk w' p #[mU, nU, kU, .int .i64 64, mR, n', k', .int .i64 64, ptr br, ptr pa, .int .i64 S.now, .int .u64 ep'] 103) :
    OrgG w' own' p { S with rn := names, rk := ks, ep := ep' } mU nU kU mR n' k' br pa ub kb D :=
  ⟨hp, hG.1 _ _ h.op, (h.ru.fr hF fun c t hc ht => hX c t hc (by rcases ht with rfl | rfl | rfl <;> simp) (by rcases ht with rfl | rfl | rfl <;> simp) (by rcases ht with rfl | rfl | rfl <;> simp) (by rcases ht with rfl | rfl | rfl <;> simp)).own_mono hG.1, hR,
    h.us.mono fun j c v _ hv => hv.fr hF (fun c t hc ht => hX c t hc (by rcases ht with rfl | rfl <;> simp) (by rcases ht with rfl | rfl <;> simp) (by rcases ht with rfl | rfl <;> simp) (by rcases ht with rfl | rfl <;> simp)) hG.1, hI,
    h.rk.fr hF (hX _ _ h.ork (by simp) (by simp) (by simp) (by simp)), hG.1 _ _ h.ork, h.ag.fr hF fun c hc => hX _ _ (h.oag c hc) (by simp) (by simp) (by simp) (by simp), fun c hc => hG.1 _ _ (h.oag c hc), hlt,
    by
      cases hq : own' 6 with
      | none => rfl
      | some t =>
        rcases hG.2 _ t hq with h1 | h1
        · rw [h.otab] at h1; cases h1
        · have := World.block_lt_of_cell? w ⟨6, 0, none⟩ (h.tab 0 (by decide))
          have h2 : 6 < w.heap.size := this
          omega,
    h.tab.fr hF htX⟩

theorem role_any {w : World} {own : Own} {p : Nat} {S : OrgS} (a : ByteArray) (h : OrgAt w own p S) (hep : S.ep < 1000000) :
    Calls Tryz.prog 17 #[ptr p, .string a] w fun e w' => e = .returned (.tuple #[.int .i64 (S.role a).1.1, .int .i64 (S.role a).1.2]) ∧ OrgPost w own p (S.role a).2 w' := by
  obtain ⟨mU, nU, kU, mR, nR, kR, br, pa, ub, rb, D, g⟩ := h
  refine (roleNew_walk a g hep).mono ?_
  rintro e w' ⟨rfl, w1, w2, own', n', k', hE, hsz, hm, hb, hR, hF, hG, hlt, hp, hF3⟩
  refine ⟨rfl, ?_⟩
  have hsz2 := hF.size
  have hG0 : OwnGrow w own own' := ⟨hG.1, fun c t hc => (hG.2 c t hc).imp id fun h => by omega⟩
  have hX : Fr (fun c => c = p ∨ own c = some (.map true) ∨ own c = some (.names true) ∨ own c = some (.known true)) w w' := ((hE.mono fun _ _ => False.elim).trans hF).trans' hF3 fun _ _ h => .inl h
  have hXn : ∀ c t, own c = some t → t ≠ .org → t ≠ .map true → t ≠ .names true → t ≠ .known true → ¬ (c = p ∨ own c = some (.map true) ∨ own c = some (.names true) ∨ own c = some (.known true)) := by
    rintro c t hc h1 h2 h3 h4 (rfl | hq | hq | hq)
    · rw [g.op] at hc; injection hc with hc; exact h1 hc.symm
    · rw [hq] at hc; injection hc with hc; exact h2 hc.symm
    · rw [hq] at hc; injection hc with hc; exact h3 hc.symm
    · rw [hq] at hc; injection hc with hc; exact h4 hc.symm
  have htX : ¬ ((6 : Nat) = p ∨ own 6 = some (.map true) ∨ own 6 = some (.names true) ∨ own 6 = some (.known true)) := by
    have h0 := g.otab
    rintro (hq | hq | hq | hq)
    · rw [hq, g.op] at h0; cases h0
    · rw [hq] at h0; cases h0
    · rw [hq] at h0; cases h0
    · rw [hq] at h0; cases h0
  have hop' : own' p = some .org := hG.1 _ _ g.op
  have hR' : RegAt w' own' true 114 mR n' k' (regNext S.rn rb a (w.heap.size + 1)).1 (regNext S.rn rb a (w.heap.size + 1)).2 := hR.fr hF3 fun c t hc ht hcp => by
    rw [hcp, hop'] at hc
    injection hc with hc
    subst hc
    rcases ht with ht | ht | ht <;> cases ht
  obtain ⟨_, hnm, hcase⟩ := add_items (P' := RoleAt w' ((own'.put w.heap.size (.set true (addCode S.rn S.rk a).1)).put (w.heap.size + 1) (.item true (addCode S.rn S.rk a).1))) g.rs g.rr.len a (w.heap.size + 1) []
  rw [hnm] at hR'
  rcases hcase with ⟨hk, hkb, hks⟩ | ⟨hk, i, hi, hit⟩
  · refine ⟨own', ⟨_, _, _, _, _, _, _, _, _, _, _, g.newR _ hX hXn htX hG0 (fun c t hc => Nat.lt_of_lt_of_le (hlt c t hc) hF3.size) hR' ?_ hp⟩, ?_, hG0⟩
    · rw [hkb, hks]
      exact g.rs.mono fun j c v _ hv => hv.fr hX (fun c t hc ht => hXn c t hc (by rcases ht with rfl | rfl <;> simp) (by rcases ht with rfl | rfl <;> simp) (by rcases ht with rfl | rfl <;> simp) (by rcases ht with rfl | rfl <;> simp)) hG.1
    · exact hX.mono (by
        rintro c _ (rfl | hq | hq | hq)
        · rw [g.op]; simp
        · rw [hq]; simp
        · rw [hq]; simp
        · rw [hq]; simp)
  · subst hi
    obtain ⟨i, hi⟩ : ∃ i, (addCode S.rn S.rk a).1 = i := ⟨_, rfl⟩
    rw [hi] at hit
    have hno : ∀ c, w.heap.size ≤ c → c < w.heap.size + 2 → own c = none ∧ own' c = none := fun c hc hc2 => by
      have h0 : own c = none := by
        cases hq : own c with
        | none => rfl
        | some t => have := g.lt c t hq; omega
      refine ⟨h0, ?_⟩
      cases hq : own' c with
      | none => rfl
      | some t =>
        rcases hG.2 c t hq with h1 | h1
        · rw [h0] at h1; cases h1
        · omega
    have n0 := hno w.heap.size (Nat.le_refl _) (by omega)
    have n1 := hno (w.heap.size + 1) (by omega) (by omega)
    have m1 : (own'.put w.heap.size (.set true i)) (w.heap.size + 1) = none := by unfold Own.put; rw [if_neg (by omega)]; exact n1.2
    have GA : OwnGrow w own' (own'.put w.heap.size (.set true i)) := OwnGrow.put (.inr ⟨n0.2, Nat.le_refl _⟩)
    have GB : OwnGrow w (own'.put w.heap.size (.set true i)) ((own'.put w.heap.size (.set true i)).put (w.heap.size + 1) (.item true i)) := OwnGrow.put (.inr ⟨m1, by omega⟩)
    have GC := GA.trans GB (Nat.le_refl _)
    have GD := hG0.trans GC (Nat.le_refl _)
    have hw' := hF3.size
    have hlt' := Own.put_lt (b := w.heap.size + 1) (t := .item true i) (Own.put_lt (b := w.heap.size) (t := .set true i) (fun c t hc => Nat.lt_of_lt_of_le (hlt c t hc) hF3.size) (by omega)) (by omega)
    have hps := g.blk.lt
    have hnw : ∀ c, w.heap.size ≤ c → c < w.heap.size + 2 → ¬ (c = p ∨ own c = some (.map true) ∨ own c = some (.names true) ∨ own c = some (.known true)) := by
      intro c h1 h2
      have h3 := (hno c h1 h2).1
      rintro (hq | hq | hq | hq)
      · omega
      · rw [hq] at h3; cases h3
      · rw [hq] at h3; cases h3
      · rw [hq] at h3; cases h3
    have FX := hF.trans' hF3 fun _ _ h => Or.inl h
    have hnewU : RoleAt w' ((own'.put w.heap.size (.set true i)).put (w.heap.size + 1) (.item true i)) i (w.heap.size + 1) [] :=
      ⟨Own.put_self _ _ _, w.heap.size, hb.fr FX (hnw _ (by omega) (by omega)), GB.1 _ _ (Own.put_self _ _ _), hm.fr FX (hnw _ (by omega) (by omega))⟩
    have hItems := hit hnewU fun j c v hj _ hv => hv.fr hX (fun c t hc ht => hXn c t hc (by rcases ht with rfl | rfl <;> simp) (by rcases ht with rfl | rfl <;> simp) (by rcases ht with rfl | rfl <;> simp) (by rcases ht with rfl | rfl <;> simp)) GD.1
    refine ⟨_, ⟨_, _, _, _, _, _, _, _, _, _, _, g.newR _ hX hXn htX GD hlt' (hR'.own_mono GC.1) hItems hp⟩, ?_, GD⟩
    exact hX.mono (by
      rintro c _ (rfl | hq | hq | hq)
      · rw [g.op]; simp
      · rw [hq]; simp
      · rw [hq]; simp
      · rw [hq]; simp)
end Go.Proofs.YtnippamifihdpaaGreatDoor
