/- org: granted, Who, Can. -/
import Derived.Test.YtnippamifihdpaaGreatDoorKOrgI
namespace Go.Proofs.YtnippamifihdpaaGreatDoor
open Go Go.RowKit
set_option linter.unusedVariables false

def GrantRel (w : World) (rk : List (Option (List ByteArray))) (d : ByteArray) (n : Nat) (roles k : Value) (wr : World) : Prop :=
  ∃ kk : Nat, k = .int .i64 kk ∧ kk ≤ n ∧ roles = .int .u64 (grantTo rk d kk : Nat) ∧ Ext w wr
theorem grant_rel {w wr w3 : World} {rk : List (Option (List ByteArray))} {d : ByteArray} {n kk k1 v : Nat} (hk : kk + 1 = k1) (hk1 : k1 ≤ n) (hv : grantTo rk d (kk + 1) = v) (hE : Ext w wr) (hE3 : Ext wr w3) : GrantRel w rk d n (.int .u64 (v : Nat)) (.int .i64 (k1 : Nat)) w3 := by
  subst hk hv
  exact ⟨kk + 1, rfl, hk1, rfl, hE.trans hE3⟩

set_option maxRecDepth 100000 in
set_option maxHeartbeats 8000000 in
theorem granted_walk {w : World} {own : Own} {p : Nat} {S : OrgS} {mU nU kU mR nR kR : Value} {br pa : Nat} {ub rb : List (Option Nat)} {D : Nat → Prop} (g : OrgG w own p S mU nU kU mR nR kR br pa ub rb D) (d : ByteArray) :
    Calls Tryz.prog 81 #[ptr p, .string d] w fun e w' => e = .returned (.int .u64 (S.granted d)) ∧ Ext w w' := by
  obtain ⟨ad, cap, hkR, h6, hrow⟩ := g.rowR
  have hle := g.rr.le
  have hlen := g.rr.len
  have hul := g.rs.len
  have c6 := h6 w (Ext.refl w)
  have HG := hid g
  have HRow := hid hrow
  have HUL := hid hul
  clear hrow g h6 hkR hul
  go_enter Tryz.func81, Tryz.ntmps81
  go_wp2_with fail
  have H0 : Hid (GrantRel w S.rk d rb.length (.int .u64 0) (.int .i64 ((0 : Nat) : Int)) w) := hid ⟨0, rfl, Nat.zero_le _, rfl, Ext.refl w⟩
  clear c6
  go_loopw [5, 16] (fun roles k wr => GrantRel w S.rk d rb.length roles k wr) (fun _ k _ => rb.length - numOf k)
  case atStart => exact H0.out
  case round =>
    clear H0
    obtain ⟨kk, rfl, hkk, rfl, hE⟩ := hrel
    by_cases hlt : kk < rb.length
    · obtain ⟨x, hx⟩ : ∃ x, rb[kk]? = some x := ⟨rb[kk]'hlt, List.getElem?_eq_getElem hlt⟩
      obtain ⟨gk, rfl, hcx⟩ := HRow.out kk x hx
      have cg := hcx wr hE
      have hk1 : (kk : Int) < (rb.length : Int) := by omega
      have hk2 : decide ((kk : Int) < (rb.length : Int)) = true := by simp; omega
      have hk0 : (0 : Int) ≤ kk := by omega
      have hk64 : (kk : Int) < 64 := by omega
      have hk64n : kk < 64 := by omega
      obtain ⟨k1, hk1'⟩ : ∃ k1, kk + 1 = k1 := ⟨_, rfl⟩
      have e1 : (kk : Int) + 1 = (k1 : Int) := by omega
      have hk1le : k1 ≤ rb.length := by omega
      have hvl := grantTo_lt S.rk d kk (by omega)
      obtain ⟨v, hv⟩ : ∃ v, grantTo S.rk d kk = v := ⟨_, rfl⟩
      rw [hv] at hvl
      rw [hv]
      have HV := hid hv
      have HE := hid hE
      have HK1 := hid hk1'
      have HX := hid hx
      cases x with
      | none =>
        have hn := HG.out.rs.none_ kk hx
        have HN := hid ((grantTo_none (d := d) hn).trans hv)
        rw [show kptr none = .pointer none from rfl] at cg
        clear hx hcx hE hk1' hv hkk hn
        go_wp2_with fail
        all_goals go_roundw
        all_goals first
          | exact grant_rel HK1.out hk1le HN.out HE.out (Ext.refl wr)
          | (simp only [numOf]; omega)
      | some b =>
        obtain ⟨l, hl, hu⟩ := (HG.out.ext hE).rs.some_ kk b hx
        obtain ⟨ho, m, hb, hom, hs⟩ := hu
        have hc0 := (hb.cell 0).trans rfl
        have hlk := names_look wr m l d hs
        rw [show kptr (some b) = ptr b from rfl] at cg
        by_cases hd : d ∈ l
        · rw [decide_eq_true hd] at hlk
          have hpl := pow_lt kk hk64n
          have hw := wrap_pow kk hk64n
          have hor := u64_or_nat v (2 ^ kk) hvl hpl
          have HOR : Hid (bits .or .u64 (v : Int) (IntKind.u64.wrap ((2 : Int) ^ kk)) = ((v ||| 2 ^ kk : Nat) : Int)) := hid (by rw [hw]; exact hor)
          have HN := hid ((grantTo_yes hl hd).trans (by rw [hv]))
          clear hx hcx hE hk1' hv hkk hs hb ho hom hl hd hpl hw hor
          go_wp2_with fail
          all_goals go_roundw
          all_goals first
            | (rw [HOR.out]; exact grant_rel HK1.out hk1le HN.out HE.out ((Ext.refl wr).alloc _))
            | (simp only [numOf]; omega)
        · rw [decide_eq_false hd] at hlk
          have HN := hid ((grantTo_no hl hd).trans hv)
          clear hx hcx hE hk1' hv hkk hs hb ho hom hl hd
          go_wp2_with fail
          all_goals go_roundw
          all_goals first
            | exact grant_rel HK1.out hk1le HN.out HE.out ((Ext.refl wr).alloc _)
            | (simp only [numOf]; omega)
    · have hk2 : decide ((kk : Int) < (rb.length : Int)) = false := by simp; omega
      have hke : kk = rb.length := by omega
      have HE := hid hE
      clear hE hkk
      go_wp2_with fail
      go_ret
      subst hke
      exact ⟨by rw [HUL.out]; rfl, HE.out⟩

def WhoRel (w : World) (S : OrgS) (d : ByteArray) (n : Nat) (users k : Value) (wr : World) : Prop :=
  ∃ kk : Nat, k = .int .i64 kk ∧ kk ≤ n ∧ users = .int .u64 (whoTo S d kk : Nat) ∧ Ext w wr
theorem who_rel {w wr w3 : World} {S : OrgS} {d : ByteArray} {n kk k1 v : Nat} (hk : kk + 1 = k1) (hk1 : k1 ≤ n) (hv : whoTo S d (kk + 1) = v) (hE : Ext w wr) (hE3 : Ext wr w3) : WhoRel w S d n (.int .u64 (v : Nat)) (.int .i64 (k1 : Nat)) w3 := by
  subst hk hv
  exact ⟨kk + 1, rfl, hk1, rfl, hE.trans hE3⟩
theorem mayB_rests {S : OrgS} {d : ByteArray} {k : Nat} {u : UserS} (h : u.rests = true) : mayB S d k u = false := by unfold mayB; rw [h]; rfl
theorem mayB_bars {S : OrgS} {d : ByteArray} {k : Nat} {u : UserS} (h : d ∈ u.bars) : mayB S d k u = false := by unfold mayB; rw [decide_eq_true h]; simp
theorem mayB_else {S : OrgS} {d : ByteArray} {k x q : Nat} {u : UserS} {b : Bool} (h1 : u.rests = false) (h2 : d ∉ u.bars) (hx : S.has k = x) (hq : S.granted d = q) (hb : (x &&& q != 0) = b) : mayB S d k u = b := by unfold mayB; rw [h1, decide_eq_false h2, hx, hq, hb]; rfl
theorem and_int {x q : Nat} (hx : x < 18446744073709551616) (hq : q < 18446744073709551616) {b : Bool} (hb : (x &&& q != 0) = b) : (bits .and .u64 (x : Int) (q : Int) != 0) = b := by
  rw [bits_and_u64_nat x q hx hq, ← hb]
  cases h : (x &&& q != 0)
  · have : x &&& q = 0 := by simpa using h
    rw [this]; rfl
  · have : x &&& q ≠ 0 := by simpa using h
    rw [bne_iff_ne]; omega

set_option maxRecDepth 100000 in
set_option maxHeartbeats 16000000 in
theorem who_walk {w : World} {own : Own} {p : Nat} {S : OrgS} {mU nU kU mR nR kR : Value} {br pa : Nat} {ub rb : List (Option Nat)} {D : Nat → Prop} (g : OrgG w own p S mU nU kU mR nR kR br pa ub rb D) (d : ByteArray)
    (hlent : ∀ i k, i < 64 → lentB S k i = true → ∃ v, S.uk[k]? = some (some v)) :
    Calls Tryz.prog 35 #[ptr p, .string d] w fun e w' => e = .returned (.int .u64 (S.who d)) ∧ Ext w w' := by
  obtain ⟨ad, cap, hkU, h2, hrow⟩ := g.rowU
  have hle := g.ru.le
  have hlen := g.ru.len
  have hul := g.us.len
  have hql := grantTo_lt S.rk d S.rk.length (by rw [← g.rs.len, g.rr.len]; exact g.rr.le)
  obtain ⟨q, hq⟩ : ∃ q, S.granted d = q := ⟨_, rfl⟩
  have hql : q < 18446744073709551616 := by rw [← hq]; exact hql
  have hgr := granted_walk g d
  rw [hq] at hgr
  have HG := hid g
  have H2 := hid h2
  have HRow := hid hrow
  have HUL := hid hul
  have HQ := hid hq
  have HLT := hid hlent
  clear hrow g h2 hkU hul hq hlent
  go_enter Tryz.func35, Tryz.ntmps35
  go_wp2_with (go_at_call 81; refine hgr.mono ?_; rintro r w1 ⟨rfl, hE⟩; have d2 := H2.out w1 hE; have HE := hid hE; clear hE)
  have H0 : Hid (WhoRel w S d ub.length (.int .u64 0) (.int .i64 ((0 : Nat) : Int)) w1) := hid ⟨0, rfl, Nat.zero_le _, rfl, HE.out⟩
  clear d2 hgr
  go_loopw [5, 20] (fun users k wr => WhoRel w S d ub.length users k wr) (fun _ k _ => ub.length - numOf k)
  case atStart => exact H0.out
  case round =>
    clear H0
    obtain ⟨kk, rfl, hkk, rfl, hE⟩ := hrel
    by_cases hlt : kk < ub.length
    · obtain ⟨x, hx⟩ : ∃ x, ub[kk]? = some x := ⟨ub[kk]'hlt, List.getElem?_eq_getElem hlt⟩
      obtain ⟨gk, rfl, hcx⟩ := HRow.out kk x hx
      have cg := hcx wr hE
      have hk1 : (kk : Int) < (ub.length : Int) := by omega
      have hk2 : decide ((kk : Int) < (ub.length : Int)) = true := by simp; omega
      have hk0 : (0 : Int) ≤ kk := by omega
      have hk64 : (kk : Int) < 64 := by omega
      have hk64n : kk < 64 := by omega
      obtain ⟨k1, hk1'⟩ : ∃ k1, kk + 1 = k1 := ⟨_, rfl⟩
      have e1 : (kk : Int) + 1 = (k1 : Int) := by omega
      have hk1le : k1 ≤ ub.length := by omega
      have hvl := whoTo_lt S d kk (by omega)
      obtain ⟨v, hv⟩ : ∃ v, whoTo S d kk = v := ⟨_, rfl⟩
      rw [hv] at hvl
      rw [hv]
      have HV := hid hv
      have HE := hid hE
      have HK1 := hid hk1'
      have HX := hid hx
      cases x with
      | none =>
        have hn := HG.out.us.none_ kk hx
        have HN := hid ((whoTo_none (d := d) hn).trans hv)
        rw [show kptr none = .pointer none from rfl] at cg
        clear hx hcx hE hk1' hv hkk hn
        go_wp2_with fail
        all_goals go_roundw
        all_goals first
          | exact who_rel HK1.out hk1le HN.out HE.out (Ext.refl wr)
          | (simp only [numOf]; omega)
      | some b =>
        obtain ⟨u, huk, hu⟩ := (HG.out.ext hE).us.some_ kk b hx
        have hu' := hu
        obtain ⟨ho, hr, m, hb, hom, hs⟩ := hu
        have hc1 := (hb.cell 1).trans rfl
        have hc2 := (hb.cell 2).trans rfl
        have hlk := names_look wr m u.bars d hs
        rw [show kptr (some b) = ptr b from rfl] at cg
        have HUK := hid huk
        cases hre : u.rests
        · rw [hre] at hc2
          by_cases hd : d ∈ u.bars
          · rw [decide_eq_true hd] at hlk
            have HN := hid ((whoTo_no huk (mayB_bars hd)).trans hv)
            clear hx hcx hE hk1' hv hkk hs hb ho hom hr huk hd hu' hre
            go_wp2_with fail
            all_goals go_roundw
            all_goals first
              | exact who_rel HK1.out hk1le HN.out HE.out ((Ext.refl wr).alloc _)
              | (simp only [numOf]; omega)
          · rw [decide_eq_false hd] at hlk
            obtain ⟨y, hy⟩ : ∃ y, S.has kk = y := ⟨_, rfl⟩
            have hyl : y < 18446744073709551616 := by rw [← hy]; exact lentTo_lt S kk _
            have HY := hid hy
            cases hyq : (y &&& q != 0)
            · have hne := and_int hyl hql hyq
              have HN := hid ((whoTo_no huk (mayB_else hre hd hy HQ.out hyq)).trans hv)
              clear hx hcx hE hk1' hv hkk hs hb ho hom hr huk hd hu' hre hyq hy
              go_wp2_with (go_at_call 80; refine (has_walk (HG.out.ext (HE.out.alloc _)) kk b u hk64n HX.out HUK.out (fun k => HLT.out kk k hk64n)).mono ?_; rintro r w3 ⟨rfl, hE3⟩; rw [HY.out]; have HE3 := hid hE3; clear hE3)
              all_goals go_roundw
              all_goals first
                | exact who_rel HK1.out hk1le HN.out HE.out HE3.out.of_alloc
                | (simp only [numOf]; omega)
            · have hne := and_int hyl hql hyq
              have hpl := pow_lt kk hk64n
              have hw := wrap_pow kk hk64n
              have hor := u64_or_nat v (2 ^ kk) hvl hpl
              have HOR : Hid (bits .or .u64 (v : Int) (IntKind.u64.wrap ((2 : Int) ^ kk)) = ((v ||| 2 ^ kk : Nat) : Int)) := hid (by rw [hw]; exact hor)
              have HN := hid ((whoTo_yes huk (mayB_else hre hd hy HQ.out hyq)).trans (by rw [hv]))
              clear hx hcx hE hk1' hv hkk hs hb ho hom hr huk hd hu' hre hyq hy hpl hw hor
              go_wp2_with (go_at_call 80; refine (has_walk (HG.out.ext (HE.out.alloc _)) kk b u hk64n HX.out HUK.out (fun k => HLT.out kk k hk64n)).mono ?_; rintro r w3 ⟨rfl, hE3⟩; rw [HY.out]; have HE3 := hid hE3; clear hE3)
              all_goals go_roundw
              all_goals first
                | (rw [HOR.out]; exact who_rel HK1.out hk1le HN.out HE.out HE3.out.of_alloc)
                | (simp only [numOf]; omega)
        · rw [hre] at hc2
          have HN := hid ((whoTo_no (d := d) huk (mayB_rests hre)).trans hv)
          clear hx hcx hE hk1' hv hkk hs hb ho hom hr huk hu' hre hlk
          go_wp2_with fail
          all_goals go_roundw
          all_goals first
            | exact who_rel HK1.out hk1le HN.out HE.out (Ext.refl wr)
            | (simp only [numOf]; omega)
    · have hk2 : decide ((kk : Int) < (ub.length : Int)) = false := by simp; omega
      have hke : kk = ub.length := by omega
      have HE := hid hE
      clear hE hkk
      go_wp2_with fail
      go_ret
      subst hke
      exact ⟨by rw [HUL.out]; rfl, HE.out⟩

theorem who_any {w : World} {own : Own} {p : Nat} {S : OrgS} (d : ByteArray) (h : OrgAt w own p S) (hlent : ∀ i k, i < 64 → lentB S k i = true → ∃ v, S.uk[k]? = some (some v)) :
    Calls Tryz.prog 35 #[ptr p, .string d] w fun e w' => e = .returned (.int .u64 (S.who d)) ∧ Ext w w' := by
  obtain ⟨mU, nU, kU, mR, nR, kR, br, pa, ub, rb, D, g⟩ := h
  exact who_walk g d hlent
set_option maxHeartbeats 4000000 in
theorem can_walk {w : World} {p i x : Nat} (a d : ByteArray) (b : Bool) (hi : i < 64) (hx : x < 18446744073709551616) (hb : x.testBit i = b)
    (hf : Calls Tryz.prog 34 #[ptr p, .string a] w fun e w' => e = .returned (.tuple #[.int .i64 (i : Nat), .bool true]) ∧ Ext w w')
    (hw : ∀ W, Ext w W → Calls Tryz.prog 35 #[ptr p, .string d] W fun e w' => e = .returned (.int .u64 x) ∧ Ext W w') :
    Calls Tryz.prog 20 #[ptr p, .string a, .string d] w fun e w' => e = .returned (.bool b) ∧ Ext w w' := by
  have HW := hid hw
  have HB := hid hb
  clear hw hb
  go_enter Tryz.func20, Tryz.ntmps20
  go_wp2_with (first | (go_at_call 34; refine hf.mono ?_; rintro r w1 ⟨rfl, hE⟩; have HE := hid hE; clear hE) | (go_at_call 35; refine (HW.out _ HE.out).mono ?_; rintro r w2 ⟨rfl, hE2⟩; have HE2 := hid hE2; clear hE2) | (go_at_call 64; refine (set_any x _).mono ?_; rintro r w3 ⟨rfl, hE3⟩; have HE3 := hid hE3; clear hE3) | (go_at_call 65; refine (has_in x i _ hi hx).mono ?_; rintro r w4 ⟨rfl, hE4⟩; rw [HB.out]; have HE4 := hid hE4; clear hE4))
  go_ret
  exact ⟨rfl, ((HE.out.trans HE2.out).trans HE3.out).trans HE4.out⟩
set_option maxHeartbeats 4000000 in
theorem can_miss {w : World} {p : Nat} (a d : ByteArray)
    (hf : Calls Tryz.prog 34 #[ptr p, .string a] w fun e w' => e = .returned (.tuple #[.int .i64 0, .bool false]) ∧ Ext w w') :
    Calls Tryz.prog 20 #[ptr p, .string a, .string d] w fun e w' => e = .returned (.bool false) ∧ Ext w w' := by
  go_enter Tryz.func20, Tryz.ntmps20
  go_wp2_with (first | (go_at_call 34; refine hf.mono ?_; rintro r w1 ⟨rfl, hE⟩; have HE := hid hE; clear hE))
  go_ret
  exact ⟨rfl, HE.out⟩
theorem can_any {w : World} {own : Own} {p : Nat} {S : OrgS} (a d : ByteArray) (h : OrgAt w own p S) (hlent : ∀ i k, i < 64 → lentB S k i = true → ∃ v, S.uk[k]? = some (some v)) :
    Calls Tryz.prog 20 #[ptr p, .string a, .string d] w fun e w' => e = .returned (.bool (S.can a d)) ∧ Ext w w' := by
  have hf := find_any a h
  unfold OrgS.can
  cases hq : S.findU a with
  | none => rw [hq] at hf; exact can_miss a d hf
  | some q =>
    obtain ⟨i, u⟩ := q
    rw [hq] at hf
    obtain ⟨mU, nU, kU, mR, nR, kR, br, pa, ub, rb, D, g⟩ := h
    have hi : i < 64 := by have := g.fst_lt a; rw [hq] at this; exact this
    exact can_walk a d _ hi (whoTo_lt S d _ (by rw [← g.us.len, g.ru.len]; exact g.ru.le)) rfl hf fun W hW => who_walk (g.ext hW) d hlent
end Go.Proofs.YtnippamifihdpaaGreatDoor
