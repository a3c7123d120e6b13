/- org: NoRole. -/
import Derived.Test.YtnippamifihdpaaGreatDoorKOrgC
namespace Go.Proofs.YtnippamifihdpaaGreatDoor
open Go Go.RowKit
set_option linter.unusedVariables false

/-- A user without a role. -/
def strike (i : Nat) (u : UserS) : UserS := { u with roles := u.roles &&& (18446744073709551615 - 2 ^ i) }
/-- The first k users without a role. -/
def strikeTo (i : Nat) (uk : List (Option UserS)) (k : Nat) : List (Option UserS) := (uk.take k).map (Option.map (strike i)) ++ uk.drop k
theorem strikeTo_zero (i : Nat) (uk : List (Option UserS)) : strikeTo i uk 0 = uk := by simp [strikeTo]
theorem strikeTo_all (i : Nat) (uk : List (Option UserS)) : strikeTo i uk uk.length = uk.map (Option.map (strike i)) := by simp [strikeTo]
theorem strikeTo_length (i : Nat) (uk : List (Option UserS)) (k : Nat) : (strikeTo i uk k).length = uk.length := by simp [strikeTo]; omega
theorem strikeTo_get (i : Nat) (uk : List (Option UserS)) (k j : Nat) : (strikeTo i uk k)[j]? = if j < k then (uk[j]?).map (Option.map (strike i)) else uk[j]? := by
  unfold strikeTo
  by_cases hk : k ≤ uk.length
  · rw [List.getElem?_append, List.length_map, List.length_take, Nat.min_eq_left hk]
    split
    · rename_i h
      rw [List.getElem?_map, List.getElem?_take_of_lt h]
    · rename_i h
      rw [List.getElem?_drop]
      congr 1
      omega
  · rw [List.take_of_length_le (by omega), List.drop_of_length_le (by omega), List.append_nil, List.getElem?_map]
    split
    · rfl
    · rename_i h
      rw [List.getElem?_eq_none (by omega)]
      rfl
theorem strikeTo_none {i : Nat} {uk : List (Option UserS)} {k : Nat} (h : uk[k]? = some none) : strikeTo i uk (k + 1) = strikeTo i uk k := by
  refine List.ext_getElem? fun j => ?_
  rw [strikeTo_get, strikeTo_get]
  by_cases hj : j < k
  · rw [if_pos hj, if_pos (by omega)]
  · by_cases he : j = k
    · subst he
      rw [if_pos (by omega), if_neg (by omega), h]
      rfl
    · rw [if_neg hj, if_neg (by omega)]
theorem strikeTo_some {i : Nat} {uk : List (Option UserS)} {k : Nat} {u : UserS} (h : uk[k]? = some (some u)) : strikeTo i uk (k + 1) = (strikeTo i uk k).set k (some (strike i u)) := by
  have hl : k < uk.length := (List.getElem?_eq_some_iff.1 h).1
  refine List.ext_getElem? fun j => ?_
  rw [strikeTo_get, List.getElem?_set]
  by_cases he : k = j
  · subst he
    rw [if_pos (by omega), if_pos rfl, if_pos (by rw [strikeTo_length]; exact hl), h]
    rfl
  · rw [if_neg he, strikeTo_get]
    by_cases hj : j < k
    · rw [if_pos hj, if_pos (by omega)]
    · rw [if_neg hj, if_neg (by omega)]
theorem strikeTo_at (i : Nat) (uk : List (Option UserS)) (k : Nat) : (strikeTo i uk k)[k]? = uk[k]? := by rw [strikeTo_get, if_neg (by omega)]

/-- A hierarchy without a place. -/
@[irreducible] def dropAll (J : Nat → Nat) (a : Nat) : Nat → Nat := dropTo J a 64
theorem dropAll_eq (J : Nat → Nat) (a : Nat) : dropAll J a = dropTo J a 64 := by unfold dropAll; rfl

def OrgS.noRole (S : OrgS) (a : ByteArray) : Nat × OrgS :=
  match S.findR a with
  | some (i, _) => (0, { S with rk := S.rk.set i none, J := dropAll S.J i, uk := S.uk.map (Option.map (strike i)), ep := S.ep + 1 })
  | none => (21, S)

abbrev ItemOf (own : Own) (c : Nat) : Prop := ∃ j, own c = some (.item false j)
def NoRoleRel (w2 : World) (own : Own) (ub : List (Option Nat)) (uk : List (Option UserS)) (i : Nat) (k : Value) (wr : World) : Prop :=
  ∃ kk : Nat, k = .int .i64 kk ∧ kk ≤ ub.length ∧ Items (UserAt wr own) ub (strikeTo i uk kk) ∧ Fr (ItemOf own) w2 wr

theorem struck_user (w1 w' : World) (own : Own) (i b : Nat) (u : UserS) (x : Nat) (hx : x < 18446744073709551616) (hu : UserAt w1 own i b u) (hb' : ∀ m, Blk w1 b #[.int .u64 u.roles, .map (some m), .bool u.rests] 108 → Blk w' b #[.int .u64 x, .map (some m), .bool u.rests] 108) (hF : Fr (fun c => c = b) w1 w') : UserAt w' own i b { u with roles := x } := by
  obtain ⟨ho, hr, m, hb, hm2, hs⟩ := hu
  refine ⟨ho, hx, m, hb' m hb, hm2, hs.fr hF ?_⟩
  rintro rfl
  rw [ho] at hm2
  cases hm2
/-- One user struck. -/
theorem norole_rel {w2 wr w3 : World} {own : Own} {ub : List (Option Nat)} {uk : List (Option UserS)} {i kk k1 b : Nat} {u : UserS} {x : Nat} (hk : kk + 1 = k1) (hk1 : k1 ≤ ub.length) (hI : Items (UserAt wr own) ub (strikeTo i uk kk)) (hF : Fr (ItemOf own) w2 wr)
    (hub : ub[kk]? = some (some b)) (huk : uk[kk]? = some (some u)) (hx : x = u.roles &&& (18446744073709551615 - 2 ^ i)) (hu : UserAt wr own kk b u) (hF3 : Fr (fun c => c = b) wr w3) (hb3 : ∀ m, Blk wr b #[.int .u64 u.roles, .map (some m), .bool u.rests] 108 → Blk w3 b #[.int .u64 x, .map (some m), .bool u.rests] 108) :
    NoRoleRel w2 own ub uk i (.int .i64 (k1 : Nat)) w3 := by
  subst hk
  have hob : own b = some (.item false kk) := hu.1
  have hu3 : UserAt w3 own kk b (strike i u) := by
    have h1 := struck_user wr w3 own kk b u x (by rw [hx]; exact Nat.lt_of_le_of_lt Nat.and_le_left hu.2.1) hu hb3 hF3
    rw [hx] at h1
    exact h1
  refine ⟨kk + 1, rfl, hk1, ?_, hF.trans' hF3 (by rintro c _ rfl; exact ⟨kk, hob⟩)⟩
  rw [strikeTo_some huk]
  refine hI.upd hub hu3 fun j c v hj hc hv => ?_
  refine hv.fr hF3 (fun d t hd ht hdb => ?_) fun _ _ h => h
  rw [hdb, hob] at hd
  injection hd with hd
  subst hd
  rcases ht with ht | ht
  · injection ht with _ ht; exact hj ht.symm
  · cases ht
theorem norole_skip {w2 wr : World} {own : Own} {ub : List (Option Nat)} {uk : List (Option UserS)} {i kk k1 : Nat} (hk : kk + 1 = k1) (hk1 : k1 ≤ ub.length) (hI : Items (UserAt wr own) ub (strikeTo i uk kk)) (hF : Fr (ItemOf own) w2 wr) (huk : uk[kk]? = some none) :
    NoRoleRel w2 own ub uk i (.int .i64 (k1 : Nat)) wr := by
  subst hk
  refine ⟨kk + 1, rfl, hk1, ?_, hF⟩
  rw [strikeTo_none huk]
  exact hI

set_option maxRecDepth 100000 in
set_option maxHeartbeats 8000000 in
theorem noRole_hit (w : World) (own : Own) (p b i gk cap n br ep cU : Nat) (aU : Option Addr) (a : ByteArray) (J : Nat → Nat) (pcs : Array Value) (x : Value) (ub : List (Option Nat)) (uk : List (Option UserS)) (hi : i < 64) (hin : i < n)
    (hm : Calls Tryz.prog 62 #[ptr p, .string a] w fun e w' => e = .returned (.tuple #[.int .i64 i, ptr b, .int .i64 0]) ∧ Ext w w')
    (hp : Blk w p pcs 103) (h6 : pcs[6]? = some (.slice (some ⟨gk, 0, none⟩) n cap)) (h8 : pcs[8]? = some (ptr br)) (h2 : pcs[2]? = some (.slice aU ub.length cU)) (h11 : pcs[11]? = some (.int .u64 ep)) (hep : ep < 1000000)
    (cg : w.cell? ⟨gk, i, none⟩ = some x) (fg : w.frozen? ⟨gk, i, none⟩ = false) (hR : RankAt w br J)
    (hrow : w.ownsRow 0 109 1 (.slice aU ub.length cU) ub.length (ub.map kptr)) (hus : Items (UserAt w own) ub uk) (hul : ub.length ≤ 64)
    (ogk : own gk = some (.known true)) (obr : own br = some .rank) (op : own p = some .org) (ou : ∀ c, some c = (Value.slice aU ub.length cU).ownBlock → own c = some (.known false)) :
    Calls Tryz.prog 83 #[ptr p, .string a] w fun e w' => e = .returned (.int .i64 0) ∧ ∃ w1, Ext w w1 ∧ RankAt w' br (dropAll J i) ∧ Items (UserAt w' own) ub (uk.map (Option.map (strike i))) ∧
      Blk w' p (pcs.setIfInBounds 11 (.int .u64 ((ep + 1 : Nat) : Int))) 103 ∧ Fr (fun c => c = br ∨ ItemOf own c ∨ c = p) (w1.setCell ⟨gk, i, none⟩ (.pointer none)) w' := by
  have lg := World.block_lt_of_cell? w _ cg
  have hs : ∀ W, Ext w W → W.cell? ⟨p, 6, none⟩ = some (.slice (some ⟨gk, 0, none⟩) n cap) ∧ W.cell? ⟨gk, i, none⟩ = some x ∧ W.frozen? ⟨gk, i, none⟩ = false := fun W hW =>
    ⟨((hp.ext hW).cell 6).trans h6, (hW.cell (a := ⟨gk, i, none⟩) lg id).trans cg, (hW.frozen (a := ⟨gk, i, none⟩) lg id).trans fg⟩
  have hgp : gk ≠ p := by rintro rfl; rw [op] at ogk; cases ogk
  have hgb : gk ≠ br := by rintro rfl; rw [obr] at ogk; cases ogk
  have hpb : p ≠ br := by rintro rfl; rw [obr] at op; cases op
  have HS := hid hs
  have HP := hid hp
  have H8 := hid h8
  have H2 := hid h2
  have H11 := hid h11
  have HR := hid hR
  have HRW := hid hrow
  have HU := hid hus
  have HOU := hid ou
  have OG := hid ogk
  have OB := hid obr
  have OP := hid op
  have hi0 : (0 : Int) ≤ i := by omega
  have hi1 : (i : Int) < n := by omega
  have hi2 : (i : Int) < 64 := by omega
  clear hs hp h6 h8 h2 h11 cg fg hR hrow hus ou ogk obr op
  have hr1 : ∀ W, Ext w W → RankAt (W.setCell ⟨gk, i, none⟩ (.pointer none)) br J := fun W hW => (HR.out.fr hW id).fr ((Fr.refl (fun c => c = gk) W).setCell (p := ⟨gk, i, none⟩) (.inl rfl) _) (Ne.symm hgb)
  have HR1 := hid hr1
  clear hr1
  go_enter Tryz.func83, Tryz.ntmps83
  go_wp2_with (first | (go_at_call 62; refine hm.mono ?_; rintro r w1 ⟨rfl, hE⟩; obtain ⟨d6, cg, fg⟩ := HS.out w1 hE; have HE := hid hE; have d8 : (w1.setCell ⟨gk, i, none⟩ (.pointer none)).cell? ⟨p, 8, none⟩ = some (ptr br) := (((HP.out.ext hE).setCell_other (p := ⟨gk, i, none⟩) (Ne.symm hgp) _).cell 8).trans H8.out; clear hE) | (go_at_call 167; refine (rankDrop_any br i J _ (HR1.out w1 HE.out) hi).mono ?_; rintro r w3 ⟨⟨nn, rfl⟩, hR3, hF3⟩; rw [← dropAll_eq] at hR3; have HR3 := hid hR3; have HF3 := hid hF3; have d2 : w3.cell? ⟨p, 2, none⟩ = some (.slice aU ub.length cU) := ((((HP.out.ext HE.out).setCell_other (p := ⟨gk, i, none⟩) (Ne.symm hgp) (.pointer none)).fr hF3 hpb).cell 2).trans H2.out; clear hR3 hF3))
  have F1 : Fr (fun c => c = gk) w1 (w1.setCell ⟨gk, i, none⟩ (.pointer none)) := (Fr.refl (fun c => c = gk) w1).setCell (p := ⟨gk, i, none⟩) (.inl rfl) _
  have F03 : Fr (fun c => c = gk ∨ c = br) w w3 := ((HE.out.mono fun _ _ => False.elim : Fr (fun c => c = gk ∨ c = br) w w1).trans' F1 fun _ _ h => .inl h).trans' HF3.out fun _ _ h => .inr h
  have hus3 : Items (UserAt w3 own) ub (strikeTo i uk 0) := by
    rw [strikeTo_zero]
    refine HU.out.mono fun j b' u _ hu => hu.fr F03 (fun c t hc ht hq => ?_) fun _ _ h => h
    rcases hq with rfl | rfl
    · rw [OG.out] at hc; injection hc with hc; subst hc; rcases ht with ht | ht <;> cases ht
    · rw [OB.out] at hc; injection hc with hc; subst hc; rcases ht with ht | ht <;> cases ht
  have hrow3 : w3.ownsRow 0 109 1 (.slice aU ub.length cU) ub.length (ub.map kptr) := by
    refine ownsRow_fr HRW.out F03 fun c hc hq => ?_
    have := HOU.out c hc
    rcases hq with rfl | rfl
    · rw [OG.out] at this; cases this
    · rw [OB.out] at this; cases this
  have hnone : ∀ k : Nat, ub[k]? = some none → uk[k]? = some none := HU.out.none_
  have H0 : Hid (NoRoleRel w3 own ub uk i (.int .i64 ((0 : Nat) : Int)) w3) := hid ⟨0, rfl, Nat.zero_le _, hus3, Fr.refl _ _⟩
  have HRW3 := hid hrow3
  have HN := hid hnone
  have HF1 := hid F1
  have HF03 := hid F03
  have hp3 : Blk w3 p pcs 103 := ((HP.out.ext HE.out).setCell_other (p := ⟨gk, i, none⟩) (Ne.symm hgp) _).fr HF3.out hpb
  have HP3 := hid hp3
  clear hus3 hrow3 hnone F1 F03 hp3 d2 d6 d8 cg fg
  have hItem : ∀ c, (some c = (Value.slice aU ub.length cU).ownBlock) → ¬ ItemOf own c := fun c hc ⟨j, hj⟩ => by have := HOU.out c hc; rw [hj] at this; cases this
  have hItemP : ¬ ItemOf own p := fun ⟨j, hj⟩ => by rw [OP.out] at hj; cases hj
  have hItemB : ¬ ItemOf own br := fun ⟨j, hj⟩ => by rw [OB.out] at hj; cases hj
  have HI1 := hid hItem
  have HI2 := hid hItemP
  have HI3 := hid hItemB
  clear hItem hItemP hItemB
  go_loopw [39] (fun k wr => NoRoleRel w3 own ub uk i k wr) (fun k _ => ub.length - numOf k)
  case atStart => exact H0.out
  case round =>
    clear H0
    obtain ⟨kk, rfl, hkk, hI, hF⟩ := hrel
    by_cases hlt : kk < ub.length
    · obtain ⟨y, hy⟩ : ∃ y, ub[kk]? = some y := ⟨ub[kk]'hlt, List.getElem?_eq_getElem hlt⟩
      have hy2 : (ub.map kptr)[kk]? = some (kptr y) := by rw [List.getElem?_map, hy]; rfl
      obtain ⟨gu, cap', hkv, cgu, fgu, hgu⟩ := row_cell (ownsRow_fr HRW3.out hF fun c hc => HI1.out c hc) hy2
      injection hkv with q1 q2 q3
      subst q1 q3
      have hk1 : (kk : Int) < (ub.length : Int) := by omega
      have hk2 : decide ((kk : Int) < (ub.length : Int)) = true := by simp; omega
      have hk0 : (0 : Int) ≤ kk := by omega
      obtain ⟨k1, hk1'⟩ : ∃ k1, kk + 1 = k1 := ⟨_, rfl⟩
      have e1 : (kk : Int) + 1 = (k1 : Int) := by omega
      have hk1le : k1 ≤ ub.length := by omega
      have HIt := hid hI
      have HF := hid hF
      have HK1 := hid hk1'
      have HY := hid hy
      cases y with
      | none =>
        have HN0 := hid (HN.out kk hy)
        rw [show kptr none = .pointer none from rfl] at cgu
        clear hy hy2 hI hF hk1' hkk fgu
        go_wp2_with fail
        all_goals go_roundw
        all_goals first
          | exact norole_skip HK1.out hk1le HIt.out HF.out HN0.out
          | (simp only [numOf]; omega)
      | some b2 =>
        obtain ⟨u, hu1, hu⟩ := hI.some_ kk b2 hy
        rw [strikeTo_at] at hu1
        obtain ⟨m, hb2⟩ := userBlk hu
        have cb := (hb2.cell 0).trans rfl
        have fb := hb2.frozen 0
        have hur := hu.2.1
        have hpl := pow_lt i hi
        have hor : bits .andNot .u64 (u.roles : Int) (IntKind.u64.wrap ((2 : Int) ^ i)) = ((u.roles &&& (18446744073709551615 - 2 ^ i) : Nat) : Int) := by rw [wrap_pow i hi]; exact u64_andNot_nat _ _ hur hpl
        have HOR := hid hor
        have HU1 := hid hu1
        have HUA := hid hu
        rw [show kptr (some b2) = ptr b2 from rfl] at cgu
        clear hy hy2 hI hF hk1' hkk fgu hu1 hu hb2 hpl hor
        go_wp2_with fail
        go_region
        all_goals go_wp2_with fail
        all_goals go_roundw
        all_goals first
          | (rw [HOR.out]; exact norole_rel HK1.out hk1le HIt.out HF.out HY.out HU1.out rfl HUA.out (((Fr.refl (fun c => c = b2) wr).setCell (p := ⟨b2, 0, none⟩) (.inl rfl) _).drew) (fun m hb => (hb.setCell 0 _).drew))
          | (simp only [numOf]; omega)
    · have hk2 : decide ((kk : Int) < (ub.length : Int)) = false := by simp; omega
      have hke : kk = ub.length := by omega
      subst hke
      have hpr := HP3.out.fr hF HI2.out
      have HIt := hid hI
      have HF := hid hF
      clear hI hF hkk
      go_wp2_with (go_at_call 59; refine (done_ok p ep pcs _ hpr H11.out hep).mono ?_; rintro r w7 ⟨rfl, hp7, hF7⟩; have HP7 := hid hp7; have HF7 := hid hF7; clear hp7 hF7)
      go_ret
      have hul2 : ub.length = uk.length := HU.out.len
      refine ⟨rfl, w1, HE.out, (HR3.out.fr HF.out HI3.out).fr HF7.out (Ne.symm hpb), ?_, HP7.out, ?_⟩
      · have h1 := HIt.out
        rw [hul2, strikeTo_all] at h1
        refine h1.mono fun j b' u _ hu => hu.fr HF7.out (fun c t hc ht hq => ?_) fun _ _ h => h
        have hq : c = p := hq
        rw [hq, OP.out] at hc
        injection hc with hc
        subst hc
        rcases ht with ht | ht <;> cases ht
      · exact ((HF3.out.mono fun _ _ h => .inl h : Fr (fun c => c = br ∨ ItemOf own c ∨ c = p) _ w3).trans' HF.out fun _ _ h => .inr (.inl h)).trans' HF7.out fun _ _ h => .inr (.inr h)
set_option maxHeartbeats 2000000 in
theorem noRole_miss (w : World) (p : Nat) (a : ByteArray)
    (hm : Calls Tryz.prog 62 #[ptr p, .string a] w fun e w' => ∃ b, e = .returned (.tuple #[.int .i64 0, ptr b, .int .i64 21]) ∧ Blk w' b #[.map none] 113 ∧ Ext w w' ∧ w.heap.size ≤ b) :
    Calls Tryz.prog 83 #[ptr p, .string a] w fun e w' => e = .returned (.int .i64 21) ∧ Ext w w' := by
  go_enter Tryz.func83, Tryz.ntmps83
  go_wp2_with (first | (go_at_call 62; refine hm.mono ?_; rintro r w1 ⟨b, rfl, hb, hE, hbl⟩; have HE := hid hE; clear hE hb))
  go_ret
  exact ⟨rfl, HE.out⟩
theorem noRole_any {w : World} {own : Own} {p : Nat} {S : OrgS} (a : ByteArray) (h : OrgAt w own p S) (hep : S.ep < 1000000) :
    Calls Tryz.prog 83 #[ptr p, .string a] w fun e w' => e = .returned (.int .i64 (S.noRole a).1) ∧ OrgPost w own p (S.noRole a).2 w' := by
  obtain ⟨mU, nU, kU, mR, nR, kR, br, pa, ub, rb, D, g⟩ := h
  have hA : OrgAt w own p S := ⟨mU, nU, kU, mR, nR, kR, br, pa, ub, rb, D, g⟩
  unfold OrgS.noRole
  rcases g.findR a with ⟨i, b, u, h1, h2, hu, hrb, hrk, hi⟩ | ⟨h1, h2⟩
  · rw [h2]
    dsimp only
    have hx2 : (rb.map kptr)[i]? = some (ptr b) := by rw [List.getElem?_map, hrb]; rfl
    obtain ⟨gk, cap, hkR, cg, fg, hgl⟩ := row_cell g.rr.k hx2
    have hin : i < rb.length := (List.getElem?_eq_some_iff.1 hrb).1
    have ogk : own gk = some (.known true) := g.rr.kb gk (by rw [hkR]; rfl)
    obtain ⟨aU, cU, hkU⟩ := row_form g.ru.k
    have hrowU := g.ru.k
    rw [hkU] at hrowU
    have hgp : gk ≠ p := by rintro rfl; rw [g.op] at ogk; cases ogk
    refine (noRole_hit w own p b i gk cap rb.length br S.ep cU aU a S.J _ (ptr b) ub S.uk hi hin (g.role_hit h1) g.blk (by rw [hkR]; rfl) rfl (by rw [hkU]; rfl) rfl hep cg fg g.rk hrowU g.us (by rw [g.ru.len]; exact g.ru.le) ogk g.ork g.op (fun c hc => g.ru.kb c (by rw [hkU]; exact hc))).mono ?_
    rintro e w' ⟨rfl, w1, hE, hR', hI', hp', hF'⟩
    refine ⟨rfl, own, ?_, ?_, OwnGrow.refl _ _⟩
    · have F1 : Fr (fun c => c = gk) w1 (w1.setCell ⟨gk, i, none⟩ (.pointer none)) := (Fr.refl (fun c => c = gk) w1).setCell (p := ⟨gk, i, none⟩) (.inl rfl) _
      have FX : Fr (fun c => c = gk ∨ c = br ∨ ItemOf own c ∨ c = p) w w' := ((hE.mono fun _ _ => False.elim : Fr (fun c => c = gk ∨ c = br ∨ ItemOf own c ∨ c = p) w w1).trans' F1 fun _ _ h => .inl h).trans' hF' fun _ _ h => .inr h
      have hne : ∀ c t, own c = some t → t ≠ .org → t ≠ .known true → t ≠ .rank → (∀ j, t ≠ .item false j) → ¬ (c = gk ∨ c = br ∨ ItemOf own c ∨ c = p) := by
        rintro c t hc n1 n2 n3 n4 (rfl | rfl | ⟨j, hj⟩ | rfl)
        · rw [ogk] at hc; injection hc with hc; exact n2 hc.symm
        · rw [g.ork] at hc; injection hc with hc; exact n3 hc.symm
        · rw [hj] at hc; injection hc with hc; exact n4 j hc.symm
        · rw [g.op] at hc; injection hc with hc; exact n1 hc.symm
      have hnt : ¬ ((6 : Nat) = gk ∨ (6 : Nat) = br ∨ ItemOf own 6 ∨ (6 : Nat) = p) := by
        have h0 := g.otab
        rintro (hq | hq | ⟨j, hq⟩ | hq)
        · rw [hq, ogk] at h0; cases h0
        · rw [hq, g.ork] at h0; cases h0
        · rw [hq] at h0; cases h0
        · rw [hq, g.op] at h0; cases h0
      have hrow : w'.ownsRow 0 114 1 kR rb.length ((rb.set i none).map kptr) := by
        rw [List.map_set, hkR]
        have r0 := g.rr.k
        rw [hkR] at r0
        have r1 := ownsRow_set (ownsRow_ext r0 hE) i (.pointer none)
        refine ownsRow_fr r1 hF' fun c hc hq => ?_
        have hc : c = gk := Option.some.inj hc
        subst hc
        rcases hq with hq | ⟨j, hq⟩ | hq
        · rw [hq, g.ork] at ogk; cases ogk
        · rw [ogk] at hq; cases hq
        · exact hgp hq
      refine ⟨mU, nU, kU, mR, nR, kR, br, pa, ub, rb.set i none, D, ⟨hp', g.op, ?_, ?_, hI', ?_, hR', g.ork, ?_, g.oag, fun c t hc => Nat.lt_of_lt_of_le (g.lt c t hc) FX.size, g.otab, g.tab.fr FX hnt⟩⟩
      · exact g.ru.fr FX fun c t hc ht => hne c t hc (by rcases ht with rfl | rfl | rfl <;> simp) (by rcases ht with rfl | rfl | rfl <;> simp) (by rcases ht with rfl | rfl | rfl <;> simp) (by rcases ht with rfl | rfl | rfl <;> simp)
      · obtain ⟨m, es, clock, m1, m2, m3, m4⟩ := g.rr.m
        exact ⟨by rw [List.length_set]; exact g.rr.len, g.rr.le, g.rr.nodup, ⟨m, es, clock, m1, m2, FX.obj m3 (hne m _ m2 (by simp) (by simp) (by simp) (by simp)), m4⟩,
          ownsRow_fr g.rr.n FX fun c hc => hne c _ (g.rr.nb c hc) (by simp) (by simp) (by simp) (by simp), g.rr.nb, by rw [List.length_set]; exact hrow, g.rr.kb⟩
      · exact g.rs.drop fun j c v hj _ hv => hv.fr FX (fun c t hc ht => hne c t hc (by rcases ht with rfl | rfl <;> simp) (by rcases ht with rfl | rfl <;> simp) (by rcases ht with rfl | rfl <;> simp) (by rcases ht with rfl | rfl <;> simp)) (fun _ _ h => h)
      · exact g.ag.fr FX fun c hc => hne c _ (g.oag c hc) (by simp) (by simp) (by simp) (by simp)
    · have F1 : Fr (fun c => c = gk) w1 (w1.setCell ⟨gk, i, none⟩ (.pointer none)) := (Fr.refl (fun c => c = gk) w1).setCell (p := ⟨gk, i, none⟩) (.inl rfl) _
      have FX : Fr (fun c => c = gk ∨ c = br ∨ ItemOf own c ∨ c = p) w w' := ((hE.mono fun _ _ => False.elim : Fr (fun c => c = gk ∨ c = br ∨ ItemOf own c ∨ c = p) w w1).trans' F1 fun _ _ h => .inl h).trans' hF' fun _ _ h => .inr h
      refine FX.mono ?_
      rintro c _ (rfl | rfl | ⟨j, hj⟩ | rfl)
      · rw [ogk]; simp
      · rw [g.ork]; simp
      · rw [hj]; simp
      · rw [g.op]; simp
  · rw [h2]
    dsimp only
    exact (noRole_miss w p a (g.role_miss h1)).mono fun e w' k => ⟨k.1, OrgPost.ext hA k.2⟩
end Go.Proofs.YtnippamifihdpaaGreatDoor
