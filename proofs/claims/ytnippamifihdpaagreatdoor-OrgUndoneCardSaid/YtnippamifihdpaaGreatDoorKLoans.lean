/- law09.OrgLoans, the walk. OrgLoans holds of every input: a loan counts to the tick ahead of its end, and not from it on. No condition. -/
import Derived.Test.YtnippamifihdpaaGreatDoorKLawC
import Derived.Test.YtnippamifihdpaaGreatDoorKRow
namespace Go.Proofs.YtnippamifihdpaaGreatDoor
open Go Go.RowKit
set_option linter.unusedVariables false

theorem mem_sortNames {l : List ByteArray} {x : ByteArray} : x ∈ sortNames l ↔ x ∈ l := by
  unfold sortNames
  rw [List.mem_map]
  constructor
  · rintro ⟨y, hy, rfl⟩
    rw [(List.mergeSort_perm _ _).mem_iff, List.mem_map] at hy
    obtain ⟨s, hs, rfl⟩ := hy
    exact hs
  · intro h
    refine ⟨x.data.toList, ?_, rfl⟩
    rw [(List.mergeSort_perm _ _).mem_iff, List.mem_map]
    exact ⟨x, h, rfl⟩
/-- What OrgLoans' guards give. -/
theorem loans_guards {S : OrgS} (hr : ∀ (k : Nat) (u : UserS), S.uk[k]? = some (some u) → u.roles < 18446744073709551616) (hnd : S.rn.Nodup) (hl : S.rk.length = S.rn.length) {from_ zr zd : ByteArray} (hc : S.can from_ zd = true) (h1 : zr ∈ S.joined from_) (h2 : zd ∈ dutiesOf (S.findR zr)) :
    ∃ f uf j, S.findU from_ = some (f, uf) ∧ uf.roles < 18446744073709551616 ∧ uf.roles.testBit j = true ∧ (S.granted zd).testBit j = true := by
  obtain ⟨f, uf, hf, _⟩ := can_iff.1 hc
  unfold OrgS.joined at h1
  rw [hf, mem_pickS] at h1
  obtain ⟨i, ds, hi, hb, hx⟩ := h1
  have hli : i < S.rn.length := by rw [← hl]; exact (List.getElem?_eq_some_iff.1 hi).1
  cases hq : S.findR zr with
  | none => rw [hq] at h2; simp [dutiesOf] at h2
  | some q =>
    obtain ⟨j, d⟩ := q
    rw [hq] at h2
    have h2' : zd ∈ sortNames d := h2
    rw [mem_sortNames] at h2'
    obtain ⟨k1, k2, k3⟩ := findR_some hq
    have hij : i = j := by
      rw [k3]
      have e1 : S.rn[i]'hli = zr := by
        rw [List.getD_eq_getElem?_getD, List.getElem?_eq_getElem hli] at hx
        exact hx
      rw [← e1, hnd.idxOf_getElem]
    subst hij
    refine ⟨f, uf, i, hf, hr f uf (findU_some hf).1, hb, ?_⟩
    unfold OrgS.granted
    rw [grantTo_bit]
    exact ⟨(List.getElem?_eq_some_iff.1 k1).1, d, k1, h2'⟩
theorem dutiesOf_length (S : OrgS) {m : Nat} (h : S.Inv m) (a : ByteArray) : (dutiesOf (S.findR a)).length ≤ m := by
  cases hq : S.findR a with
  | none => simp [dutiesOf]
  | some q =>
    obtain ⟨j, d⟩ := q
    show (sortNames d).length ≤ m
    rw [sortNames_length]
    exact h.duties j d (findR_some hq).1
theorem joined_length (S : OrgS) {m : Nat} (h : S.Inv m) (a : ByteArray) : (S.joined a).length ≤ 64 := by
  refine Nat.le_trans (pickS_length _ _ _) ?_
  rw [h.rl]
  exact h.rl64

theorem barsOf_length (S : OrgS) {m : Nat} (h : S.Inv m) (a : ByteArray) (hm : m ≤ 1000000) : (barsOf (S.findU a)).length ≤ 1000000 := by
  cases hq : S.findU a with
  | none => exact Nat.zero_le _
  | some q =>
    obtain ⟨j, u⟩ := q
    show (sortNames u.bars).length ≤ 1000000
    rw [sortNames_length]
    exact Nat.le_trans (h.bars j u (findU_some hq).1) hm
abbrev nZA : ByteArray := ⟨#[122, 122, 45, 97]⟩
abbrev nZR : ByteArray := ⟨#[122, 122, 45, 114]⟩
abbrev nZD : ByteArray := ⟨#[122, 122, 45, 100]⟩

set_option maxRecDepth 100000 in
set_option maxHeartbeats 32000000 in
theorem loans_walk (w : World) (ad : Option Addr) (len cap : Nat) (F T : ByteArray) (ticks q n : Int) (ops : Nat → OpS) (hops : OpsAt w ad len ops) (hT : Tab w) (hlen : len ≤ 9223372036854775807)
    (ht1 : -9223372036854775808 ≤ ticks) (ht2 : ticks ≤ 9223372036854775807) (hq : ticks.tmod 1000 = q) (hq1 : -999 ≤ q) (hq2 : q ≤ 999) (hn : (q < 0 ∧ -q + 2 = n) ∨ (0 ≤ q ∧ q + 2 = n)) :
    Calls Tryz.prog 3 #[.agg #[.slice ad len cap, .string F, .string T, .int .i64 ticks]] w fun e w' => e = .returned (.bool true) ∧ Ext w w' := by
  have hn1 : 2 ≤ n := by rcases hn with hn | hn <;> omega
  have hn2 : n ≤ 1001 := by rcases hn with hn | hn <;> omega
  have HOPS := hid hops
  have HT := hid hT
  have HQ := hid hq
  clear hops hT hq
  obtain ⟨S1, hS1⟩ : ∃ S1, (((((runTo ops (min len 200)).user nZA).2.role nZR).2.join F nZR).2.grant nZR nZD).2 = S1 := ⟨_, rfl⟩
  have HS1 := hid hS1
  clear hS1
  rcases hn with ⟨hq3, hn3⟩ | ⟨hq3, hn3⟩
  all_goals
    have hq4 := HQ.out
    go_enter Tryz.func3, Tryz.ntmps3
    go_wp2_with fail
    go_quiet (fail)
    go_wp2_with (first | (go_at_call 14; refine (made_any _ ad len cap ops _ rfl (HOPS.out.ext (by exact ((Ext.refl w).alloc _).drewN _)) (HT.out.ext (by exact ((Ext.refl w).alloc _).drewN _)) hlen).mono ?_; rintro r w1 ⟨p, own, rfl, hO, hE, hlo⟩; have HO1 := hid (OrgW.mk' (w0 := w) hO (inv_run ops _) ((((Ext.refl w).alloc _).drewN _).trans hE) (fun c t hc => Nat.le_trans (by simp) (hlo c t hc))); clear hO hE hlo) | (go_at_call 15; refine (wakes_any w1 (HT.out.ext HO1.out.old)).mono ?_; rintro r w2 ⟨rfl, hE⟩; have HO2 := hid (HO1.out.ext hE); clear hE) | (go_at_call 16; refine (user_h nZA HO2.out (by omega)).mono ?_; rintro r w3 ⟨rfl, hO⟩; have HO3 := hid hO; clear hO) | (go_at_call 17; refine (role_h nZR HO3.out (by omega)).mono ?_; rintro r w4 ⟨rfl, hO⟩; have HO4 := hid hO; clear hO) | (go_at_call 18; refine (join_h F nZR HO4.out (by omega)).mono ?_; rintro r w5 ⟨rfl, hO⟩; have HO5 := hid hO; clear hO) | (go_at_call 19; refine (grant_h nZR nZD HO5.out (by omega)).mono ?_; rintro r w6 ⟨rfl, hO⟩; rw [HS1.out] at hO; have HO6 := hid hO; clear hO))
    clear hq4
    refine (can_h T nZD HO6.out).mono ?_
    rintro r w7 ⟨rfl, hO⟩
    have HO7 := hid hO
    clear hO
    cases hc1 : S1.can T nZD
    · have HC1 := hid hc1
      clear hc1
      go_wp2_with fail
      refine (can_h F nZD HO7.out).mono ?_
      rintro r w8 ⟨rfl, hO⟩
      have HO8 := hid hO
      clear hO
      cases hc2 : S1.can F nZD
      · clear hc2
        go_wp2_with fail
        go_ret
        exact ⟨rfl, HO8.out.old⟩
      · have HC2 := hid hc2
        clear hc2
        go_wp2_with fail
        refine (joined_h F HO8.out).mono ?_
        rintro r w9 ⟨ad9, c9, b9, rfl, hE, hO, hb9, hl9⟩
        have HO9 := hid hO
        have HL9 := hid hl9
        clear hO hl9 hE hb9
        go_wp2_with fail
        refine (in_any _ b9 ad9 c9 (S1.joined F) nZR HL9.out (Nat.le_trans (joined_length S1 HO9.out.inv F) (by omega))).mono ?_
        rintro r w9b ⟨rfl, rfl⟩
        by_cases hi1 : nZR ∈ S1.joined F
        · rw [decide_eq_true hi1]
          have HI1 := hid hi1
          clear hi1
          go_wp2_with fail
          refine (duties_h nZR HO9.out (by omega)).mono ?_
          rintro r w10 ⟨ad10, c10, b10, rfl, hE, hO, hb10, hl10⟩
          have HO10 := hid hO
          have HL10 := hid hl10
          clear hO hl10 hE hb10
          go_wp2_with fail
          refine (in_any _ b10 ad10 c10 (dutiesOf (S1.findR nZR)) nZD HL10.out (Nat.le_trans (dutiesOf_length S1 HO10.out.inv nZR) (by omega))).mono ?_
          rintro r w10b ⟨rfl, rfl⟩
          by_cases hi2 : nZD ∈ dutiesOf (S1.findR nZR)
          · rw [decide_eq_true hi2]
            have HI2 := hid hi2
            clear hi2
            have hnw := HO10.out.inv.now2
            by_cases hnc : 999999999 - n - 5 < (S1.now : Int)
            · go_wp2_with (go_at_call 24; refine (now_h HO10.out).mono ?_; rintro r w11 ⟨rfl, rfl⟩)
              go_ret
              exact ⟨rfl, HO10.out.old⟩
            · have hnc2 : decide (999999999 - n - 5 < (S1.now : Int)) = false := decide_eq_false hnc
              go_wp2_with (go_at_call 24; refine (now_h HO10.out).mono ?_; rintro r w11 ⟨rfl, rfl⟩)
              refine (lend_h F T ((S1.now : Int) + n) HO10.out (by omega)).mono ?_
              rintro r w12 ⟨rfl, hO⟩
              by_cases hl : (S1.lend F T ((S1.now : Int) + n)).1 = 0
              · rw [hl]
                obtain ⟨hJ, hR, hND, _⟩ := HO10.out.facts
                obtain ⟨f, uf, j, g1, g2, g3, g4⟩ := loans_guards hR hND HO10.out.inv.rl HC2.out HI1.out HI2.out
                obtain ⟨S2, hS2⟩ : ∃ S2, (S1.lend F T ((S1.now : Int) + n)).2 = S2 := ⟨_, rfl⟩
                obtain ⟨S3, hS3⟩ : ∃ S3, (S2.tick (n - 1)).2 = S3 := ⟨_, rfl⟩
                obtain ⟨S4, hS4⟩ : ∃ S4, (S3.tick 1).2 = S4 := ⟨_, rfl⟩
                obtain ⟨t, ut, k1, k2, k3, k4, k5, k6⟩ := loans_law hJ g1 g2 g3 g4 hn1 (by omega) HC1.out HC2.out hl S2 S3 S4 hS2.symm hS3.symm hS4.symm
                rw [hS2] at hO
                have HO12 := hid hO
                have HS3 := hid hS3
                have HS4 := hid hS4
                have HK1 := hid k1
                have HK2 := hid k2
                have HC3 := hid k3
                have HC4 := hid k4
                have HB4 := hid k5
                have HC5 := hid k6
                clear hO hS2 hS3 hS4 k1 k2 k3 k4 k5 k6 hl hJ hR hND g1 g2 g3 g4 hnc2
                go_wp2_with fail
                refine (can_h T nZD HO12.out).mono ?_
                rintro r w13 ⟨rfl, hO⟩
                have HO13 := hid hO
                clear hO
                cases hre : ut.rests
                · have HRE : Hid (restsOf (S2.findU T) = false) := hid (by rw [HK1.out]; exact hre)
                  by_cases hba : nZD ∈ ut.bars
                  · have HOK : Hid (S2.can T nZD = false) := hid (by rw [HK2.out, hre, decide_eq_true hba]; rfl)
                    have HBA : Hid (nZD ∈ barsOf (S2.findU T)) := hid (by rw [HK1.out]; exact mem_sortNames.2 hba)
                    have HBL : Hid ((barsOf (S2.findU T)).length ≤ 1000000) := hid (barsOf_length S2 HO13.out.inv T (by omega))
                    clear hre hba
                    rw [HOK.out]
                    go_wp2_with (go_at_call 26; refine (rests_h T HO13.out).mono ?_; rintro r w14 ⟨rfl, hO⟩; rw [HRE.out]; have HO14 := hid hO; clear hO)
                    refine (bars_h T HO14.out (by omega)).mono ?_
                    rintro r w15 ⟨ad15, c15, b15, rfl, hE, hO, hb15, hl15⟩
                    have HO15 := hid hO
                    have HL15 := hid hl15
                    clear hO hl15 hE hb15
                    go_wp2_with fail
                    refine (in_any _ b15 ad15 c15 (barsOf (S2.findU T)) nZD HL15.out HBL.out).mono ?_
                    rintro r w15b ⟨rfl, rfl⟩
                    rw [decide_eq_true HBA.out]
                    go_wp2_with (go_at_call 28; refine (tick_h (n - 1) HO15.out (by omega)).mono ?_; rintro r x1 ⟨rfl, hO⟩; rw [HS3.out] at hO; have HP1 := hid hO; clear hO)
                    refine (can_h T nZD HP1.out).mono ?_
                    rintro r x2 ⟨rfl, hO⟩
                    rw [HC3.out, HOK.out]
                    have HP2 := hid hO
                    clear hO
                    go_wp2_with (go_at_call 28; refine (tick_h 1 HP2.out (by omega)).mono ?_; rintro r x3 ⟨rfl, hO⟩; rw [HS4.out] at hO; have HP3 := hid hO; clear hO)
                    refine (can_h T nZD HP3.out).mono ?_
                    rintro r x4 ⟨rfl, hO⟩
                    rw [HC4.out]
                    have HP4 := hid hO
                    clear hO
                    go_wp2_with (go_at_call 29; refine (back_h F T HP4.out (by omega)).mono ?_; rintro r x5 ⟨rfl, hO⟩; rw [HB4.out]; have HP5 := hid hO; clear hO)
                    refine (can_h F nZD HP5.out).mono ?_
                    rintro r x6 ⟨rfl, hO⟩
                    rw [HC5.out]
                    have HP6 := hid hO
                    clear hO
                    go_wp2_with fail
                    go_ret
                    exact ⟨rfl, HP6.out.old⟩
                  · have HOK : Hid (S2.can T nZD = true) := hid (by rw [HK2.out, hre, decide_eq_false hba]; rfl)
                    have HBA : Hid (nZD ∉ barsOf (S2.findU T)) := hid (by rw [HK1.out]; exact fun h => hba (mem_sortNames.1 h))
                    have HBL : Hid ((barsOf (S2.findU T)).length ≤ 1000000) := hid (barsOf_length S2 HO13.out.inv T (by omega))
                    clear hre hba
                    rw [HOK.out]
                    go_wp2_with (go_at_call 26; refine (rests_h T HO13.out).mono ?_; rintro r w14 ⟨rfl, hO⟩; rw [HRE.out]; have HO14 := hid hO; clear hO)
                    refine (bars_h T HO14.out (by omega)).mono ?_
                    rintro r w15 ⟨ad15, c15, b15, rfl, hE, hO, hb15, hl15⟩
                    have HO15 := hid hO
                    have HL15 := hid hl15
                    clear hO hl15 hE hb15
                    go_wp2_with fail
                    refine (in_any _ b15 ad15 c15 (barsOf (S2.findU T)) nZD HL15.out HBL.out).mono ?_
                    rintro r w15b ⟨rfl, rfl⟩
                    rw [decide_eq_false HBA.out]
                    go_wp2_with (go_at_call 28; refine (tick_h (n - 1) HO15.out (by omega)).mono ?_; rintro r x1 ⟨rfl, hO⟩; rw [HS3.out] at hO; have HP1 := hid hO; clear hO)
                    refine (can_h T nZD HP1.out).mono ?_
                    rintro r x2 ⟨rfl, hO⟩
                    rw [HC3.out, HOK.out]
                    have HP2 := hid hO
                    clear hO
                    go_wp2_with (go_at_call 28; refine (tick_h 1 HP2.out (by omega)).mono ?_; rintro r x3 ⟨rfl, hO⟩; rw [HS4.out] at hO; have HP3 := hid hO; clear hO)
                    refine (can_h T nZD HP3.out).mono ?_
                    rintro r x4 ⟨rfl, hO⟩
                    rw [HC4.out]
                    have HP4 := hid hO
                    clear hO
                    go_wp2_with (go_at_call 29; refine (back_h F T HP4.out (by omega)).mono ?_; rintro r x5 ⟨rfl, hO⟩; rw [HB4.out]; have HP5 := hid hO; clear hO)
                    refine (can_h F nZD HP5.out).mono ?_
                    rintro r x6 ⟨rfl, hO⟩
                    rw [HC5.out]
                    have HP6 := hid hO
                    clear hO
                    go_wp2_with fail
                    go_ret
                    exact ⟨rfl, HP6.out.old⟩
                · have HRE : Hid (restsOf (S2.findU T) = true) := hid (by rw [HK1.out]; exact hre)
                  have HOK : Hid (S2.can T nZD = false) := hid (by rw [HK2.out, hre]; rfl)
                  clear hre
                  rw [HOK.out]
                  go_wp2_with (go_at_call 26; refine (rests_h T HO13.out).mono ?_; rintro r w14 ⟨rfl, hO⟩; rw [HRE.out]; have HO15 := hid hO; clear hO)
                  go_wp2_with (go_at_call 28; refine (tick_h (n - 1) HO15.out (by omega)).mono ?_; rintro r x1 ⟨rfl, hO⟩; rw [HS3.out] at hO; have HP1 := hid hO; clear hO)
                  refine (can_h T nZD HP1.out).mono ?_
                  rintro r x2 ⟨rfl, hO⟩
                  rw [HC3.out, HOK.out]
                  have HP2 := hid hO
                  clear hO
                  go_wp2_with (go_at_call 28; refine (tick_h 1 HP2.out (by omega)).mono ?_; rintro r x3 ⟨rfl, hO⟩; rw [HS4.out] at hO; have HP3 := hid hO; clear hO)
                  refine (can_h T nZD HP3.out).mono ?_
                  rintro r x4 ⟨rfl, hO⟩
                  rw [HC4.out]
                  have HP4 := hid hO
                  clear hO
                  go_wp2_with (go_at_call 29; refine (back_h F T HP4.out (by omega)).mono ?_; rintro r x5 ⟨rfl, hO⟩; rw [HB4.out]; have HP5 := hid hO; clear hO)
                  refine (can_h F nZD HP5.out).mono ?_
                  rintro r x6 ⟨rfl, hO⟩
                  rw [HC5.out]
                  have HP6 := hid hO
                  clear hO
                  go_wp2_with fail
                  go_ret
                  exact ⟨rfl, HP6.out.old⟩
              · have hl2 : (((S1.lend F T ((S1.now : Int) + n)).1 : Int) != 0) = true := by rw [bne_iff_ne]; omega
                have HO12 := hid hO
                clear hO hl
                go_wp2_with fail
                go_ret
                exact ⟨rfl, HO12.out.old⟩
          · rw [decide_eq_false hi2]
            clear hi2
            go_wp2_with fail
            go_ret
            exact ⟨rfl, HO10.out.old⟩
        · rw [decide_eq_false hi1]
          clear hi1
          go_wp2_with fail
          go_ret
          exact ⟨rfl, HO9.out.old⟩
    · clear hc1
      go_wp2_with fail
      go_ret
      exact ⟨rfl, HO7.out.old⟩
end Go.Proofs.YtnippamifihdpaaGreatDoor
namespace Go.Proofs.YtnippamifihdpaaGreatDoor.orgLoans
open Go Go.ChangeShapes Go.WideShapes Go.ChangeAt Go.RowKit
set_option linter.unusedVariables false

theorem tab_of {W : World} (h : laidMet Tryz.prog Rows.orgLoansRow.laid W) : Tab W := by
  have e : (Rows.laid_math_bits_deBruijn64tab : DataW Unit) = Lib.tabData .u8 (List.map (fun n : Nat => (n : Int)) Lib.deBruijn64tab) := by kernel_rfl
  have h : laidMet Tryz.prog [("math/bits.deBruijn64tab", Rows.laid_math_bits_deBruijn64tab)] W := h
  rw [e] at h
  intro j hj
  have := (Lib.tabIs_of_head gTab (by kernel_rfl) Tryz.underlying341 Tryz.underlying5 (by kernel_rfl) (by kernel_rfl) h).cell gTab j (by simpa using hj)
  rw [this, List.getD_eq_getElem?_getD, List.getD_eq_getElem?_getD, List.getElem?_map]
  cases Lib.deBruijn64tab[j]? <;> rfl
theorem tmod_bound (t : Int) : -999 ≤ t.tmod 1000 ∧ t.tmod 1000 ≤ 999 := by
  rcases Int.le_total 0 t with h | h
  · have := Int.tmod_nonneg 1000 h
    have := Int.tmod_lt_of_pos t (show (0 : Int) < 1000 by decide)
    omega
  · have h2 : t.tmod 1000 = -((-t).tmod 1000) := by rw [Int.neg_tmod]; omega
    have := Int.tmod_nonneg 1000 (show 0 ≤ -t by omega)
    have := Int.tmod_lt_of_pos (-t) (show (0 : Int) < 1000 by decide)
    omega

set_option maxRecDepth 100000 in
theorem contract (H : Type) (enc : TypeId × Value → H) (W : World) (base : Nat) (args : Array Value) (ds gs : List (DataW H)) (before : List MemPlace)
    (hval : ∀ (j : Nat) t v, Tryz.f3.params[j]? = some t → args[j]? = some v → Value.okWide Tryz.prog W .any base t v)
    (hW : DataW.Whole enc Tryz.prog Tryz.f3.params.toList Rows.orgLoansSpec.vars false W args.toList ds gs before) (hL : laidMet Tryz.prog Rows.orgLoansRow.laid W) :
    Calls Tryz.prog 3 args W fun e W' => ∃ v, e = .returned v ∧ Rows.orgLoansSpec.post enc Tryz.prog Tryz.f3 false true false false W args v W' := by
  have hW' := hW
  obtain ⟨p, q, hA0, hV, hbe, hfz, hnd⟩ := hW
  have hA : DataW.TrodAll enc Tryz.prog W 0 (fun _ => true) true Tryz.f3.params.toList args.toList ds p := hA0
  rw [Tryz.params3] at hA hval
  obtain ⟨v0, vs0, d0, ds0, p0, q0, hargs, hds, hp, h0, r0⟩ := trodAll_cons hA
  obtain ⟨rfl, rfl, rfl⟩ := trodAll_nil r0
  obtain rfl : args = #[v0] := by cases args; simp_all
  obtain ⟨x0, x1, x2, x3, y0, y1, y2, y3, n, rfl, hd, hpp, t0, t1, t2, t3⟩ := Joins.open_agg4 Tryz.underlying24 (by kernel_rfl) (by kernel_rfl) (hval 0 24 v0 rfl rfl) h0
  obtain ⟨ad, len, cap, ops, rfl, hops, hlen⟩ := ops_of_trod t0
  obtain ⟨F, e1, _, _⟩ := DataW.trod_string Tryz.underlying9 t1
  obtain ⟨T, e2, _, _⟩ := DataW.trod_string Tryz.underlying9 t2
  obtain ⟨ticks, e3, _, hwf⟩ := DataW.trod_int Tryz.underlying3 t3
  simp only [List.cons.injEq, and_true] at e1 e2 e3
  subst e1 e2 e3
  have hwf : -9223372036854775808 ≤ ticks ∧ ticks ≤ 9223372036854775807 := by simpa [Lit.wf, IntKind.min, IntKind.max, IntKind.signed, IntKind.bits] using hwf
  unfold maxLen at hlen
  have hb := tmod_bound ticks
  have hn : (ticks.tmod 1000 < 0 ∧ -(ticks.tmod 1000) + 2 = (if ticks.tmod 1000 < 0 then -(ticks.tmod 1000) + 2 else ticks.tmod 1000 + 2)) ∨ (0 ≤ ticks.tmod 1000 ∧ ticks.tmod 1000 + 2 = (if ticks.tmod 1000 < 0 then -(ticks.tmod 1000) + 2 else ticks.tmod 1000 + 2)) := by
    by_cases h : ticks.tmod 1000 < 0
    · exact .inl ⟨h, (if_pos h).symm⟩
    · exact .inr ⟨by omega, (if_neg h).symm⟩
  refine (loans_walk W ad len cap F T ticks _ _ ops hops (tab_of hL) (by omega) hwf.1 hwf.2 rfl hb.1 hb.2 hn).mono fun e W' ⟨he, hg⟩ => ?_
  subst he
  refine ⟨_, rfl, post_true hW' rfl ?_ ?_ ?_ (by kernel_rfl) hg⟩
  · rw [Tryz.params3]
    intro t ht
    simp only [List.mem_cons, List.not_mem_nil, or_false] at ht
    subst ht
    exact ⟨by kernel_rfl, of_decide_eq_true (by kernel_rfl)⟩
  · rw [Tryz.params3]
    intro ds' hl
    match ds', hl with
    | [d], _ => rfl
  · rw [Tryz.params3, hds]
    rfl
end Go.Proofs.YtnippamifihdpaaGreatDoor.orgLoans
