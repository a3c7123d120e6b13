/- org: what has, granted, Who, Can tell (plain). org: had, has, granted. -/
import Derived.Test.YtnippamifihdpaaGreatDoorKOrgC
namespace Go.Proofs.YtnippamifihdpaaGreatDoor
open Go Go.RowKit
set_option linter.unusedVariables false

def rolesOf (uk : List (Option UserS)) (k : Nat) : Nat := match uk[k]? with | some (some u) => u.roles | _ => 0
def lentB (S : OrgS) (k i : Nat) : Bool := (getE S.es ((k * 64 + i : Nat) : Int)).isSome
/-- The roles of the user i with the loans of the first k users. -/
noncomputable def lentTo (S : OrgS) (i : Nat) : Nat → Nat
  | 0 => spread S.J (rolesOf S.uk i)
  | k + 1 => if lentB S k i then lentTo S i k ||| spread S.J (rolesOf S.uk k) else lentTo S i k
noncomputable def OrgS.has (S : OrgS) (i : Nat) : Nat := lentTo S i S.uk.length
/-- The roles among the first k that are granted a duty. -/
def grantTo (rk : List (Option (List ByteArray))) (d : ByteArray) : Nat → Nat
  | 0 => 0
  | k + 1 => match rk[k]? with
    | some (some l) => if d ∈ l then grantTo rk d k ||| 2 ^ k else grantTo rk d k
    | _ => grantTo rk d k
def OrgS.granted (S : OrgS) (d : ByteArray) : Nat := grantTo S.rk d S.rk.length
/-- May the user k do the duty? -/
noncomputable def mayB (S : OrgS) (d : ByteArray) (k : Nat) (u : UserS) : Bool := !u.rests && (!decide (d ∈ u.bars) && (S.has k &&& S.granted d != 0))
noncomputable def whoTo (S : OrgS) (d : ByteArray) : Nat → Nat
  | 0 => 0
  | k + 1 => match S.uk[k]? with
    | some (some u) => if mayB S d k u then whoTo S d k ||| 2 ^ k else whoTo S d k
    | _ => whoTo S d k
noncomputable def OrgS.who (S : OrgS) (d : ByteArray) : Nat := whoTo S d S.uk.length
noncomputable def OrgS.can (S : OrgS) (a d : ByteArray) : Bool := match S.findU a with | some (i, _) => (S.who d).testBit i | none => false

theorem or_lt64 {a b : Nat} (ha : a < 18446744073709551616) (hb : b < 18446744073709551616) : a ||| b < 18446744073709551616 := Nat.or_lt_two_pow (n := 64) ha hb
theorem lentTo_lt (S : OrgS) (i k : Nat) : lentTo S i k < 18446744073709551616 := by
  induction k with
  | zero => exact spread_lt _ _
  | succ k ih =>
    unfold lentTo
    split
    · exact or_lt64 ih (spread_lt _ _)
    · exact ih
theorem grantTo_lt (rk : List (Option (List ByteArray))) (d : ByteArray) (k : Nat) (hk : k ≤ 64) : grantTo rk d k < 18446744073709551616 := by
  induction k with
  | zero => exact Nat.zero_lt_succ _
  | succ k ih =>
    have := ih (by omega)
    unfold grantTo
    split
    · split
      · exact or_lt64 this (pow_lt k (by omega))
      · exact this
    · exact this
theorem whoTo_lt (S : OrgS) (d : ByteArray) (k : Nat) (hk : k ≤ 64) : whoTo S d k < 18446744073709551616 := by
  induction k with
  | zero => exact Nat.zero_lt_succ _
  | succ k ih =>
    have := ih (by omega)
    unfold whoTo
    split
    · split
      · exact or_lt64 this (pow_lt k (by omega))
      · exact this
    · exact this
theorem grantTo_none {rk : List (Option (List ByteArray))} {d : ByteArray} {k : Nat} (h : rk[k]? = some none) : grantTo rk d (k + 1) = grantTo rk d k := by rw [grantTo, h]
theorem grantTo_no {rk : List (Option (List ByteArray))} {d : ByteArray} {k : Nat} {l : List ByteArray} (h : rk[k]? = some (some l)) (hd : d ∉ l) : grantTo rk d (k + 1) = grantTo rk d k := by rw [grantTo, h]; exact if_neg hd
theorem grantTo_yes {rk : List (Option (List ByteArray))} {d : ByteArray} {k : Nat} {l : List ByteArray} (h : rk[k]? = some (some l)) (hd : d ∈ l) : grantTo rk d (k + 1) = grantTo rk d k ||| 2 ^ k := by rw [grantTo, h]; exact if_pos hd
theorem whoTo_none {S : OrgS} {d : ByteArray} {k : Nat} (h : S.uk[k]? = some none) : whoTo S d (k + 1) = whoTo S d k := by rw [whoTo, h]
theorem whoTo_no {S : OrgS} {d : ByteArray} {k : Nat} {u : UserS} (h : S.uk[k]? = some (some u)) (hm : mayB S d k u = false) : whoTo S d (k + 1) = whoTo S d k := by rw [whoTo, h]; simp only [hm]; rfl
theorem whoTo_yes {S : OrgS} {d : ByteArray} {k : Nat} {u : UserS} (h : S.uk[k]? = some (some u)) (hm : mayB S d k u = true) : whoTo S d (k + 1) = whoTo S d k ||| 2 ^ k := by rw [whoTo, h]; simp only [hm]; rfl
theorem lentTo_no {S : OrgS} {i k : Nat} (h : lentB S k i = false) : lentTo S i (k + 1) = lentTo S i k := by rw [lentTo, h]; rfl
theorem lentTo_yes {S : OrgS} {i k : Nat} (h : lentB S k i = true) : lentTo S i (k + 1) = lentTo S i k ||| spread S.J (rolesOf S.uk k) := by rw [lentTo, h]; rfl

/-- The bits of the words. -/
theorem whoTo_bit (S : OrgS) (d : ByteArray) (k j : Nat) : (whoTo S d k).testBit j = true ↔ j < k ∧ ∃ u, S.uk[j]? = some (some u) ∧ mayB S d j u = true := by
  induction k with
  | zero => simp [whoTo]
  | succ k ih =>
    cases h : S.uk[k]? with
    | none =>
      rw [whoTo, h, ih]
      constructor
      · rintro ⟨h1, h2⟩; exact ⟨by omega, h2⟩
      · rintro ⟨h1, u, h2, h3⟩
        refine ⟨?_, u, h2, h3⟩
        rcases Nat.lt_or_ge j k with h4 | h4
        · exact h4
        · obtain rfl : j = k := by omega
          rw [h] at h2; cases h2
    | some o =>
      cases o with
      | none =>
        rw [whoTo_none h, ih]
        constructor
        · rintro ⟨h1, h2⟩; exact ⟨by omega, h2⟩
        · rintro ⟨h1, u, h2, h3⟩
          refine ⟨?_, u, h2, h3⟩
          rcases Nat.lt_or_ge j k with h4 | h4
          · exact h4
          · obtain rfl : j = k := by omega
            rw [h] at h2; cases h2
      | some v =>
        cases hm : mayB S d k v
        · rw [whoTo_no h hm, ih]
          constructor
          · rintro ⟨h1, h2⟩; exact ⟨by omega, h2⟩
          · rintro ⟨h1, u, h2, h3⟩
            refine ⟨?_, u, h2, h3⟩
            rcases Nat.lt_or_ge j k with h4 | h4
            · exact h4
            · obtain rfl : j = k := by omega
              rw [h] at h2
              injection h2 with h2
              injection h2 with h2
              subst h2
              rw [hm] at h3; cases h3
        · rw [whoTo_yes h hm, Nat.testBit_or, Bool.or_eq_true, ih, Nat.testBit_two_pow, decide_eq_true_eq]
          constructor
          · rintro (⟨h1, h2⟩ | rfl)
            · exact ⟨by omega, h2⟩
            · exact ⟨by omega, v, h, hm⟩
          · rintro ⟨h1, h2⟩
            rcases Nat.lt_or_ge j k with h4 | h4
            · exact .inl ⟨h4, h2⟩
            · exact .inr (by omega)
theorem grantTo_bit (rk : List (Option (List ByteArray))) (d : ByteArray) (k j : Nat) : (grantTo rk d k).testBit j = true ↔ j < k ∧ ∃ l, rk[j]? = some (some l) ∧ d ∈ l := by
  induction k with
  | zero => simp [grantTo]
  | succ k ih =>
    have step : ∀ (hno : ∀ l, rk[k]? = some (some l) → d ∉ l), (j < k ∧ ∃ l, rk[j]? = some (some l) ∧ d ∈ l) ↔ (j < k + 1 ∧ ∃ l, rk[j]? = some (some l) ∧ d ∈ l) := by
      intro hno
      constructor
      · rintro ⟨h1, h2⟩; exact ⟨by omega, h2⟩
      · rintro ⟨h1, l, h2, h3⟩
        refine ⟨?_, l, h2, h3⟩
        rcases Nat.lt_or_ge j k with h4 | h4
        · exact h4
        · obtain rfl : j = k := by omega
          exact (hno l h2 h3).elim
    cases h : rk[k]? with
    | none => rw [grantTo, h, ih]; exact step (by intro l hl; rw [h] at hl; cases hl)
    | some o =>
      cases o with
      | none => rw [grantTo_none h, ih]; exact step (by intro l hl; rw [h] at hl; cases hl)
      | some v =>
        by_cases hm : d ∈ v
        · rw [grantTo_yes h hm, Nat.testBit_or, Bool.or_eq_true, ih, Nat.testBit_two_pow, decide_eq_true_eq]
          constructor
          · rintro (⟨h1, h2⟩ | rfl)
            · exact ⟨by omega, h2⟩
            · exact ⟨by omega, v, h, hm⟩
          · rintro ⟨h1, h2⟩
            rcases Nat.lt_or_ge j k with h4 | h4
            · exact .inl ⟨h4, h2⟩
            · exact .inr (by omega)
        · rw [grantTo_no h hm, ih]
          exact step (by intro l hl; rw [h] at hl; injection hl with hl; injection hl with hl; subst hl; exact hm)
theorem lentTo_bit (S : OrgS) (i k j : Nat) : (lentTo S i k).testBit j = true ↔ (spread S.J (rolesOf S.uk i)).testBit j = true ∨ ∃ f, f < k ∧ lentB S f i = true ∧ (spread S.J (rolesOf S.uk f)).testBit j = true := by
  induction k with
  | zero => simp [lentTo]
  | succ k ih =>
    cases h : lentB S k i
    · rw [lentTo_no h, ih]
      constructor
      · rintro (h1 | ⟨f, h1, h2, h3⟩)
        · exact .inl h1
        · exact .inr ⟨f, by omega, h2, h3⟩
      · rintro (h1 | ⟨f, h1, h2, h3⟩)
        · exact .inl h1
        · refine .inr ⟨f, ?_, h2, h3⟩
          rcases Nat.lt_or_ge f k with h4 | h4
          · exact h4
          · obtain rfl : f = k := by omega
            rw [h] at h2; cases h2
    · rw [lentTo_yes h, Nat.testBit_or, Bool.or_eq_true, ih]
      constructor
      · rintro ((h1 | ⟨f, h1, h2, h3⟩) | h1)
        · exact .inl h1
        · exact .inr ⟨f, by omega, h2, h3⟩
        · exact .inr ⟨k, by omega, h, h1⟩
      · rintro (h1 | ⟨f, h1, h2, h3⟩)
        · exact .inl (.inl h1)
        · rcases Nat.lt_or_ge f k with h4 | h4
          · exact .inl (.inr ⟨f, h4, h2, h3⟩)
          · obtain rfl : f = k := by omega
            exact .inr h3
theorem and_ne {a b : Nat} : (a &&& b != 0) = true ↔ ∃ j, a.testBit j = true ∧ b.testBit j = true := by
  rw [bne_iff_ne]
  constructor
  · intro h
    obtain ⟨j, hj⟩ := exists_bit h
    rw [Nat.testBit_and, Bool.and_eq_true] at hj
    exact ⟨j, hj⟩
  · rintro ⟨j, h1, h2⟩ h
    have := congrArg (fun n => n.testBit j) h
    simp [Nat.testBit_and, h1, h2] at this
end Go.Proofs.YtnippamifihdpaaGreatDoor
namespace Go.Proofs.YtnippamifihdpaaGreatDoor
open Go Go.RowKit
set_option linter.unusedVariables false

set_option maxHeartbeats 2000000 in
theorem had_walk (w : World) (p b br r : Nat) (J : Nat → Nat) (c8 : w.cell? ⟨p, 8, none⟩ = some (ptr br)) (cb : w.cell? ⟨b, 0, none⟩ = some (.int .u64 r)) (hR : RankAt w br J) (hT : Tab w) (hr : r < 18446744073709551616) :
    Calls Tryz.prog 166 #[ptr p, ptr b] w fun e w' => e = .returned (.int .u64 (spread J r)) ∧ Ext w w' := by
  have HR := hid hR
  have HT := hid hT
  have HL := hid hr
  clear hR hT hr
  go_enter Tryz.func166, Tryz.ntmps166
  go_wp2_with fail
  go_region_with ((go_at_call 229; refine (callsIn_wide.1 (spread_in 5 br r J _ (Nat.le_refl _) ?_ ?_ HL.out)).mono ?_; (exact HR.out.fr (S := fun _ => False) ((Fr.refl _ w).drew) id); (exact HT.out.fr (S := fun _ => False) ((Fr.refl _ w).drew) id); rintro r w1 ⟨rfl, hB⟩; have HB := hid hB; clear hB))
  all_goals go_wp2_with fail
  all_goals go_ret
  all_goals exact ⟨rfl, (Ext.of_below HB.out).of_drew⟩
theorem OrgG.had {w : World} {own : Own} {p : Nat} {S : OrgS} {mU nU kU mR nR kR : Value} {br pa : Nat} {ub rb : List (Option Nat)} {D : Nat → Prop} (g : OrgG w own p S mU nU kU mR nR kR br pa ub rb D) {k b : Nat} {u : UserS} (hub : ub[k]? = some (some b)) (huk : S.uk[k]? = some (some u)) (W : World) (hW : Ext w W) :
    Calls Tryz.prog 166 #[ptr p, ptr b] W fun e w' => e = .returned (.int .u64 (spread S.J u.roles)) ∧ Ext W w' := by
  have gW := g.ext hW
  obtain ⟨v, hv, hu⟩ := gW.us.some_ k b hub
  rw [huk] at hv
  injection hv with hv
  injection hv with hv
  subst hv
  obtain ⟨m, hb⟩ := userBlk hu
  exact had_walk W p b br u.roles S.J ((gW.blk.cell 8).trans rfl) ((hb.cell 0).trans rfl) gW.rk gW.tab hu.2.1

/-- The rows of what is known, in every later world. -/
theorem OrgG.rowU {w : World} {own : Own} {p : Nat} {S : OrgS} {mU nU kU mR nR kR : Value} {br pa : Nat} {ub rb : List (Option Nat)} {D : Nat → Prop} (g : OrgG w own p S mU nU kU mR nR kR br pa ub rb D) :
    ∃ ad cap, kU = .slice ad ub.length cap ∧ (∀ W, Ext w W → W.cell? ⟨p, 2, none⟩ = some (.slice ad ub.length cap)) ∧ ∀ (k : Nat) (x : Option Nat), ub[k]? = some x → ∃ gk, ad = some ⟨gk, 0, none⟩ ∧ ∀ W, Ext w W → W.cell? ⟨gk, k, none⟩ = some (kptr x) := by
  obtain ⟨ad, cap, hkv⟩ := row_form g.ru.k
  refine ⟨ad, cap, hkv, fun W hW => by have := ((g.ext hW).blk.cell 2).trans rfl; rw [this]; exact congrArg some hkv, fun k x hx => ?_⟩
  have hx2 : (ub.map kptr)[k]? = some (kptr x) := by rw [List.getElem?_map, hx]; rfl
  obtain ⟨gk, cap', hkv', cg, fg, hg⟩ := row_cell g.ru.k hx2
  rw [hkv] at hkv'
  injection hkv' with q1 q2 q3
  subst q1
  exact ⟨gk, rfl, fun W hW => (hW.cell (a := ⟨gk, k, none⟩) hg id).trans cg⟩
theorem OrgG.rowR {w : World} {own : Own} {p : Nat} {S : OrgS} {mU nU kU mR nR kR : Value} {br pa : Nat} {ub rb : List (Option Nat)} {D : Nat → Prop} (g : OrgG w own p S mU nU kU mR nR kR br pa ub rb D) :
    ∃ ad cap, kR = .slice ad rb.length cap ∧ (∀ W, Ext w W → W.cell? ⟨p, 6, none⟩ = some (.slice ad rb.length cap)) ∧ ∀ (k : Nat) (x : Option Nat), rb[k]? = some x → ∃ gk, ad = some ⟨gk, 0, none⟩ ∧ ∀ W, Ext w W → W.cell? ⟨gk, k, none⟩ = some (kptr x) := by
  obtain ⟨ad, cap, hkv⟩ := row_form g.rr.k
  refine ⟨ad, cap, hkv, fun W hW => by have := ((g.ext hW).blk.cell 6).trans rfl; rw [this]; exact congrArg some hkv, fun k x hx => ?_⟩
  have hx2 : (rb.map kptr)[k]? = some (kptr x) := by rw [List.getElem?_map, hx]; rfl
  obtain ⟨gk, cap', hkv', cg, fg, hg⟩ := row_cell g.rr.k hx2
  rw [hkv] at hkv'
  injection hkv' with q1 q2 q3
  subst q1
  exact ⟨gk, rfl, fun W hW => (hW.cell (a := ⟨gk, k, none⟩) hg id).trans cg⟩

/-- A name looked for in a set. -/
theorem names_look (W : World) (m : Nat) (l : List ByteArray) (name : ByteArray) (h : SetAt W m l) : (Instr.lookup 106 (.map (some m)) (.string name) true).run Tryz.prog W = .ok (.tuple #[.agg #[], .bool (decide (name ∈ l))]) W := by
  obtain ⟨es, clock, hm, hp, hl, hst, h24⟩ := h
  rcases find_names (f := fun _ => Value.agg #[]) hp name with ⟨j, e, hf, hj, hv⟩ | ⟨hf, hno⟩
  · have := run_lookup_hit undNames undStr W hm (.str name) j e hf
    rw [hv] at this
    rw [this, decide_eq_true (List.mem_of_getElem? hj)]
  · rw [run_lookup_miss undNames undStr zeroUnit W hm (.str name) hf, decide_eq_false hno]

def HasRel (w : World) (S : OrgS) (n i : Nat) (roles k : Value) (wr : World) : Prop :=
  ∃ kk : Nat, k = .int .i64 kk ∧ kk ≤ n ∧ roles = .int .u64 (lentTo S i kk : Nat) ∧ Ext w wr
theorem atV_get (es : List Ent) (id : Int) : ∃ z : Int, atV es id = .tuple #[.int .i64 z, .bool (getE es id).isSome] := by
  unfold atV
  cases getE es id with
  | none => exact ⟨_, rfl⟩
  | some e => exact ⟨_, rfl⟩
theorem has_rel {w wr w3 : World} {S : OrgS} {n i kk k1 : Nat} {v : Nat} (hk : kk + 1 = k1) (hk1 : k1 ≤ n) (hv : lentTo S i (kk + 1) = v) (hE : Ext w wr) (hE3 : Ext wr w3) : HasRel w S n i (.int .u64 (v : Nat)) (.int .i64 (k1 : Nat)) w3 := by
  subst hk hv
  exact ⟨kk + 1, rfl, hk1, rfl, hE.trans hE3⟩

set_option maxRecDepth 100000 in
set_option maxHeartbeats 8000000 in
theorem has_walk {w : World} {own : Own} {p : Nat} {S : OrgS} {mU nU kU mR nR kR : Value} {br pa : Nat} {ub rb : List (Option Nat)} {D : Nat → Prop} (g : OrgG w own p S mU nU kU mR nR kR br pa ub rb D) (i b : Nat) (u : UserS)
    (hi : i < 64) (hub : ub[i]? = some (some b)) (huk : S.uk[i]? = some (some u)) (hlent : ∀ k, lentB S k i = true → ∃ v, S.uk[k]? = some (some v)) :
    Calls Tryz.prog 80 #[ptr p, .int .i64 i] w fun e w' => e = .returned (.int .u64 (S.has i)) ∧ Ext w w' := by
  obtain ⟨ad, cap, hkU, h2, hrow⟩ := g.rowU
  obtain ⟨gk, rfl, hci⟩ := hrow i (some b) hub
  have hle := g.ru.le
  have hlen := g.ru.len
  have hul := g.us.len
  have hin : i < ub.length := (List.getElem?_eq_some_iff.1 hub).1
  have hi0 : (0 : Int) ≤ i := by omega
  have hi1 : (i : Int) < ub.length := by omega
  have hcell : ∀ W, Ext w W → W.cell? ⟨gk, i, none⟩ = some (ptr b) := hci
  have hsp := spread_lt S.J u.roles
  have hst : lentTo S i 0 = spread S.J u.roles := by show spread S.J (rolesOf S.uk i) = _; unfold rolesOf; rw [huk]
  have c2 := h2 w (Ext.refl w)
  have ci := hcell w (Ext.refl w)
  have h9 : ∀ W, Ext w W → W.cell? ⟨p, 9, none⟩ = some (ptr pa) := fun W hW => ((g.ext hW).blk.cell 9).trans rfl
  have hag : ∀ W, Ext w W → Ag W pa S.es S.turns D := fun W hW => (g.ext hW).ag
  have hno : ∀ k : Nat, ub[k]? = some none → lentB S k i = false := fun k hk => by
    cases hq : lentB S k i
    · rfl
    · obtain ⟨v, hv⟩ := hlent k hq
      rw [g.us.none_ k hk] at hv
      cases hv
  have hkn : ∀ k b', ub[k]? = some (some b') → ∃ v, S.uk[k]? = some (some v) := fun k b' hk => let ⟨v, hv, _⟩ := g.us.some_ k b' hk; ⟨v, hv⟩
  have HG := hid g
  have H2 := hid h2
  have H9 := hid h9
  have HAG := hid hag
  have HNO := hid hno
  have HKN := hid hkn
  have HRow := hid hrow
  have HUB := hid hub
  have HUK := hid huk
  have HUL := hid hul
  clear hcell hci hrow hlent hub huk g h2 h9 hag hno hkn hkU hul
  go_enter Tryz.func80, Tryz.ntmps80
  go_wp2_with (go_at_call 166; refine (HG.out.had HUB.out HUK.out _ (Ext.refl w)).mono ?_; rintro r w1 ⟨rfl, hE⟩; have d2 := H2.out w1 hE; have HE := hid hE; clear hE)
  have H0 : Hid (HasRel w S ub.length i (.int .u64 (spread S.J u.roles : Nat)) (.int .i64 ((0 : Nat) : Int)) w1) := hid ⟨0, rfl, Nat.zero_le _, by rw [hst], HE.out⟩
  have HST := hid hst
  clear hst d2 c2 ci
  go_loopw [5, 26] (fun roles k wr => HasRel w S ub.length i roles k wr) (fun _ k _ => ub.length - numOf k)
  case atStart => exact H0.out
  case round =>
    clear H0
    obtain ⟨kk, rfl, hkk, rfl, hE⟩ := hrel
    by_cases hlt : kk < ub.length
    · obtain ⟨x, hx⟩ : ∃ x, ub[kk]? = some x := ⟨ub[kk]'hlt, List.getElem?_eq_getElem hlt⟩
      obtain ⟨gk', hgk, hcx⟩ := HRow.out kk x hx
      injection hgk with hgk
      injection hgk with hgk
      subst hgk
      have cg := hcx wr hE
      have d9 := H9.out wr hE
      have hk1 : (kk : Int) < (ub.length : Int) := by omega
      have hk2 : decide ((kk : Int) < (ub.length : Int)) = true := by simp; omega
      have hk0 : (0 : Int) ≤ kk := by omega
      have hk64 : kk < 64 := by omega
      obtain ⟨k1, hk1'⟩ : ∃ k1, kk + 1 = k1 := ⟨_, rfl⟩
      have e1 : (kk : Int) + 1 = (k1 : Int) := by omega
      have hk1le : k1 ≤ ub.length := by omega
      have hvl := lentTo_lt S i kk
      obtain ⟨v, hv⟩ : ∃ v, lentTo S i kk = v := ⟨_, rfl⟩
      rw [hv] at hvl
      rw [hv]
      have HV := hid hv
      have HE := hid hE
      have HK1 := hid hk1'
      have HX := hid hx
      obtain ⟨z, hz⟩ := atV_get S.es ((kk * 64 + i : Nat) : Int)
      cases hlb : lentB S kk i
      · have hz' : atV S.es ((kk * 64 + i : Nat) : Int) = .tuple #[.int .i64 z, .bool false] := by rw [hz]; show Value.tuple #[_, .bool (lentB S kk i)] = _; rw [hlb]
        have HZ := hid hz'
        have HLB := hid hlb
        clear hx hcx hE hk1' hv hkk hz hz' hlb
        go_wp2_with fail
        go_region_with (first | (go_at_call 71; refine (loan_any kk i _ hk64 hi).mono ?_; rintro r w3 ⟨rfl, rfl⟩) | (go_at_call 70; refine (agAt_any pa S.es S.turns D ((kk * 64 + i : Nat) : Int) _ ?_).mono ?_; (exact (HAG.out _ HE.out).fr (S := fun _ => False) ((Fr.refl _ wr).drew) (fun _ _ => id)); rintro r w4 ⟨rfl, rfl⟩; rw [HZ.out]))
        all_goals go_wp2_with fail
        all_goals go_roundw
        all_goals first
          | exact has_rel HK1.out hk1le ((lentTo_no HLB.out).trans HV.out) HE.out ((Fr.refl _ wr).drew)
          | (simp only [numOf]; omega)
      · have hz' : atV S.es ((kk * 64 + i : Nat) : Int) = .tuple #[.int .i64 z, .bool true] := by rw [hz]; show Value.tuple #[_, .bool (lentB S kk i)] = _; rw [hlb]
        have HZ := hid hz'
        have HLB := hid hlb
        cases x with
        | none => have := HNO.out kk hx; rw [hlb] at this; cases this
        | some b' =>
          obtain ⟨u', hu'⟩ := HKN.out kk b' hx
          have hro : rolesOf S.uk kk = u'.roles := by unfold rolesOf; rw [hu']
          have hsp' := spread_lt S.J u'.roles
          have hor : bits .or .u64 (v : Int) (spread S.J u'.roles : Int) = ((v ||| spread S.J u'.roles : Nat) : Int) := u64_or_nat _ _ hvl hsp'
          have hnx : lentTo S i (kk + 1) = v ||| spread S.J u'.roles := by rw [lentTo_yes hlb, hv, hro]
          have HU' := hid hu'
          have HOR := hid hor
          have HNX := hid hnx
          rw [show kptr (some b') = ptr b' from rfl] at cg
          clear hx hcx hE hk1' hv hkk hz hz' hlb hu' hor hnx hro
          go_wp2_with fail
          go_region_with (first | (go_at_call 71; refine (loan_any kk i _ hk64 hi).mono ?_; rintro r w3 ⟨rfl, rfl⟩) | (go_at_call 70; refine (agAt_any pa S.es S.turns D ((kk * 64 + i : Nat) : Int) _ ?_).mono ?_; (exact (HAG.out _ HE.out).fr (S := fun _ => False) ((Fr.refl _ wr).drew) (fun _ _ => id)); rintro r w4 ⟨rfl, rfl⟩; rw [HZ.out]))
          all_goals go_wp2_with (go_at_call 166; refine (HG.out.had HX.out HU'.out _ (by exact HE.out.drew)).mono ?_; rintro r w5 ⟨rfl, hE5⟩; have HE5 := hid hE5; clear hE5)
          all_goals go_roundw
          all_goals first
            | (rw [HOR.out]; exact has_rel HK1.out hk1le HNX.out HE.out HE5.out.of_drew)
            | (simp only [numOf]; omega)
    · have hk2 : decide ((kk : Int) < (ub.length : Int)) = false := by simp; omega
      have hke : kk = ub.length := by omega
      have HE := hid hE
      clear hE hkk
      go_wp2_with fail
      go_ret
      subst hke
      exact ⟨by rw [HUL.out]; rfl, HE.out⟩
end Go.Proofs.YtnippamifihdpaaGreatDoor
