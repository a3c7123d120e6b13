/- rank.Spread. rank: Has, Below, Over, Cut, Drop, New. -/
import Derived.Test.YtnippamifihdpaaGreatDoorKBits
import Derived.Handy
import Derived.RegionIn
import Derived.RegionTactic
namespace Go.Proofs.YtnippamifihdpaaGreatDoor
open Go Go.RowKit
attribute [local go_sem] Oper.semAt_some

/-- The marks that ranges over functions have left among the deferred calls, the last one first. -/
inductive Marks (B : Nat) (w : World) : Nat → List Deferred → Prop where
  | nil (T : Nat) : Marks B w T []
  | cons {T D : Nat} {ds : List Deferred} : D < T → B ≤ D → w.heap[D]? = some (.deferred (some [])) → Marks B w D ds → Marks B w T ({ target := .collected D, args := #[] } :: ds)
theorem Marks.mono {B T T' : Nat} {w : World} {ds : List Deferred} (h : Marks B w T ds) (ht : T ≤ T') : Marks B w T' ds := by
  cases h with
  | nil => exact .nil _
  | cons h1 h2 h3 h4 => exact .cons (Nat.lt_of_lt_of_le h1 ht) h2 h3 h4
theorem Marks.keep {B T : Nat} {w w' : World} {ds : List Deferred} (h : Marks B w T ds) (hk : ∀ k, k < T → w'.heap[k]? = w.heap[k]?) : Marks B w' T ds := by
  induction h with
  | nil => exact .nil _
  | cons h1 h2 h3 _ ih => exact .cons h1 h2 ((hk _ h1).trans h3) (ih fun k hk' => hk k (Nat.lt_trans hk' h1))
theorem leaves_marks {F : Fence} {n B : Nat} {P : Program} {fn : Func} {tmps : Array Value} {R : Ending → World → Prop} {u : FrameMode} (hu : u ≠ .run) {w : World} {T : Nat} {ds : List Deferred}
    (hm : Marks B w T ds) (hB : B ≤ w.heap.size) (h : ∀ w', Below B w w' → LeavesIn F n P fn tmps R [] u w') : LeavesInM F n P fn tmps R ds u w := by
  induction ds generalizing w T with
  | nil => exact h w (Below.refl _ _)
  | cons d ds ih =>
    cases hm with
    | @cons _ D _ h1 h2 h3 h4 =>
      have hb : Below B w (w.putObj D (.deferred none)) := (Below.refl B w).grown (grownBy_putObj' w D _) hB (fun k e => by cases e; exact h2)
      exact ⟨hu, .inl ⟨D, _, rfl, run_takeDeferred h3, ih (h4.keep fun k hk => World.putObj_heap_other (by omega)) (Nat.le_trans hB hb.size) fun w' hw => h w' (hb.trans hw)⟩⟩

theorem of_any (s z : Nat) (w : World) : Calls Tryz.prog 154 #[.agg #[.int .u64 z], .int .u64 s] w fun e w' => e = .returned (.agg #[.int .u64 s]) ∧ Ext w w' := by
  go_enter Tryz.func154, Tryz.ntmps154
  go_wp2_with fail
  go_returns
  exact ⟨rfl, (((Fr.refl _ w).alloc _).alloc _)⟩
theorem places_any (s : Nat) (w : World) : Calls Tryz.prog 173 #[.int .u64 s] w fun e w' => e = .returned (.agg #[.int .u64 s]) ∧ Ext w w' := by
  go_enter Tryz.func173, Tryz.ntmps173
  go_wp2_with (go_at_call 154; refine (of_any s 0 _).mono ?_; rintro r w' ⟨rfl, hE⟩; obtain ⟨hc, _hf⟩ := hE.cells; have HE := hid hE; clear hE)
  have h0 : w'.cell? ⟨w.heap.size, 0, none⟩ = some (.int .u64 0) := (hc w.heap.size 0 (by simp)).trans (by simp)
  have h1 := World.cell?_setCell_same' w' ⟨w.heap.size, 0, none⟩ (.int .u64 (s : Int)) (by rw [h0]; rfl)
  refine bodyPost_ret (v := .agg #[.int .u64 (s : Int)]) (by simp [results, Tryz.results173, go_sem, h1]) rfl ?_
  exact ⟨rfl, HE.out.of_alloc.setCell (.inr (by simp)) _⟩
theorem setAll_any (s : Nat) (w : World) : Calls Tryz.prog 259 #[.agg #[.int .u64 s]] w fun e w' => e = .returned (.func (.func 285) #[] #[ptr w.heap.size]) ∧ w' = w.alloc (.cells #[.int .u64 s] 121) := by
  go_enter Tryz.func259, Tryz.ntmps259
  go_wp2_with go_in
  go_ret
  exact ⟨rfl, rfl⟩
/-- The frame of Spread between two rounds. -/
inductive SpreadAct (br rb s f : Nat) (ds : List Deferred) : Act → Prop where
  | mk (u3 u4 u6 u7 u8 u9 u10 u11 u12 u13 u14 u15 u16 u17 u18 u19 u20 u21 u22 u23 u24 u25 u26 u27 u28 u29 : Value) : SpreadAct br rb s f ds
      { tmps := #[ptr br, .int .u64 s, ptr rb, u3, u4, .int .u64 f, u6, u7, u8, u9, u10, u11, u12, u13, u14, u15, u16, u17, u18, u19, u20, u21, u22, u23, u24, u25, u26, u27, u28, u29], defers := ds }
def SpreadRel (w : World) (br rb : Nat) (J : Nat → Nat) (s0 : Nat) (a : Act) (wr : World) : Prop :=
  ∃ (s f : Nat) (ds : List Deferred), SpreadAct br rb s f ds a ∧ SpreadInv J s0 s f ∧ Below w.heap.size w wr ∧ wr.cell? ⟨rb, 0, none⟩ = some (ptr br) ∧ Marks w.heap.size wr wr.heap.size ds

def natOf : Value → Nat | .int _ q => q.toNat | _ => 0
def spreadMu (a : Act) : Nat := spreadLeft (natOf (a.tmps.getD 1 undef)) (natOf (a.tmps.getD 5 undef))

def valsOf {s : Nat} (pre : List (BitOf s)) : List Nat := pre.map (·.1)
/-- Between two rounds over the places last found: next holds the join of what lies under those gone through. -/
def NextRel (J : Nat → Nat) (bn : Nat) (wr : World) {f : Nat} (pre : List (BitOf f)) (W : World) : Prop :=
  (W.cell? ⟨bn, 0, none⟩ = some (.int .u64 (joinJ J (valsOf pre))) ∧ W.frozen? ⟨bn, 0, none⟩ = false) ∧ Below wr.heap.size wr W

theorem next_round {J : Nat → Nat} {bB jj f j bn : Nat} {wr W : World} (pre : List (BitOf f)) (hj : j < 64) (hbit : f.testBit j = true) (a : Act) (hbn : bn = wr.heap.size) (hlt : bn ≠ bB) (htab : 6 ≠ bn) (hx : (joinJ J (valsOf pre)) = jj)
    (hc : W.cell? ⟨bn, 0, none⟩ = some (.int .u64 jj)) (hf : W.frozen? ⟨bn, 0, none⟩ = false) (hB : Below wr.heap.size wr W) (h1 : jj < 18446744073709551616) (h2 : J j < 18446744073709551616) :
    ownPostK (SetKeeps bB) (fun pre W => NextRel J bn wr pre W) (fun _ _ _ => False) (pre ++ [(⟨j, hj, hbit⟩ : BitOf f)]) W Exit.normal a (W.setCell ⟨bn, 0, none⟩ (.int .u64 (bits .or .u64 (jj : Int) (J j : Int)))).drew := by
  have hk : Fr (fun b => b = bn) W (W.setCell ⟨bn, 0, none⟩ (.int .u64 (bits .or .u64 (jj : Int) (J j : Int)))).drew := ((Fr.refl (fun b => b = bn) W).setCell (p := ⟨bn, 0, none⟩) (.inl rfl) _).drew
  refine ⟨((KeepsOthers.refl W).trans (KeepsOthers.setCell _ _ _)).trans (KeepsOthers.drew _), SetKeeps.fr hk (Ne.symm hlt) htab, ⟨⟨?_, ?_⟩, (hB.setCell (p := ⟨bn, 0, none⟩) (by show wr.heap.size ≤ bn; omega) _).drew⟩⟩
  · have e : valsOf (pre ++ [(⟨j, hj, hbit⟩ : BitOf f)]) = valsOf pre ++ [j] := by simp [valsOf]
    rw [e, joinJ_snoc, hx]
    exact (World.cell?_setCell_same' W ⟨bn, 0, none⟩ _ (by rw [hc]; rfl)).trans (by rw [u64_or_nat jj (J j) h1 h2])
  · exact (World.frozen?_setCell W _ _ _).trans hf

set_option maxRecDepth 100000 in
set_option maxHeartbeats 8000000 in
theorem spread_in (n br s0 : Nat) (J : Nat → Nat) (w : World) (hn : 5 ≤ n) (hR : RankAt w br J) (hT : Tab w) (hs : s0 < 18446744073709551616) :
    CallsIn Fence.wide n Tryz.prog 229 #[ptr br, .int .u64 s0] w fun e w' => e = .returned (.int .u64 (spread J s0)) ∧ Below w.heap.size w w' := by
  have hbr := hR.blt
  have hTl : 6 < w.heap.size := World.block_lt_of_cell? w ⟨6, 0, none⟩ (hT 0 (by decide))
  have HR := hid hR
  have HT := hid hT
  have HI := hid (SpreadInv.start J hs)
  clear hR hT
  refine callsIn_of_wp_marks Tryz.func229 rfl trivial ?_ rfl
  simp only [Tryz.ntmps229, List.size_toArray, List.length_cons, List.length_nil, Nat.reduceAdd, Nat.reduceSub, Array.replicate_succ, Array.replicate_zero, List.push_toArray, List.append_toArray, List.nil_append, List.cons_append]
  gi_wp2_with fail
  have hrb : (w.alloc (.cells #[ptr br] 100)).cell? ⟨w.heap.size, 0, none⟩ = some (ptr br) := by simp
  refine wpIn_loop (SpreadRel w br w.heap.size J s0) (fun a _ => spreadMu a) ⟨s0, s0, [], .mk _ _ _ _ _ _ _ _ _ _ _ _ _ _ _ _ _ _ _ _ _ _ _ _ _ _, HI.out, (Below.refl _ w).alloc (Nat.le_refl _) _, hrb, .nil _⟩ ?_
  clear hrb
  rintro a wr ⟨s, f, ds, hact, hi, hB, hrb, hm⟩
  cases hact
  have hlts := hi.lt
  have hltf := hi.flt
  by_cases hf : f = 0
  · subst hf
    have HI2 := hid hi
    have HB := hid hB
    have HM := hid hm
    clear hi hB hm
    gi_wp2_with fail
    refine leaves_marks (by simp) HM.out HB.out.size fun w' hw => ?_
    exact ⟨_, results_tmp rfl _ _ _, by show Ending.returned (Value.int .u64 (s : Int)) = _; rw [HI2.out.done], HB.out.trans hw⟩
  · have HI2 := hid hi
    have HB := hid hB
    have HM := hid hm
    have hf0 : (((f : Nat) : Int) != 0) = true := by simpa using hf
    have HF := hid hf
    clear hi hB hm hf
    have _h1n : 1 ≤ n := by omega
    have _h2n : 1 ≤ n - 1 := by omega
    have _f1 : Fence.wide.fn 173 := trivial
    have _f2 : Fence.wide.fn 259 := trivial
    gi_wp2_with (first | (gi_at_call 173; refine (callsIn_wide.2 (places_any f _)).mono ?_; rintro r w1 ⟨rfl, hE⟩; have HE := hid hE; clear hE) | (gi_at_call 259; refine (callsIn_wide.2 (setAll_any f w1)).mono ?_; rintro r w2 ⟨rfl, hw2⟩))
    have hrbl := World.block_lt_of_cell? wr _ hrb
    have hsz1 : wr.heap.size + 1 ≤ w1.heap.size := by have := HE.out.size; simpa using this
    have hbn : w2.cell? ⟨wr.heap.size, 0, none⟩ = some (.int .u64 0) := by
      rw [hw2, Fr.cell ((Ext.refl w1).alloc _) (by show wr.heap.size < w1.heap.size; omega) id, Fr.cell HE.out (by simp) id]; simp
    have hfn : w2.frozen? ⟨wr.heap.size, 0, none⟩ = false := by
      rw [hw2, Fr.frozen ((Ext.refl w1).alloc _) (by show wr.heap.size < w1.heap.size; omega) id, Fr.frozen HE.out (by simp) id]; simp
    have hX : Ext wr w2 := by rw [hw2]; exact (HE.out.of_alloc).alloc _
    have hB2 : w2.cell? ⟨w1.heap.size, 0, none⟩ = some (.int .u64 f) := by rw [hw2]; simp
    have hsz2 : w2.heap.size = w1.heap.size + 1 := by rw [hw2]; simp
    have hT2 := HT.out.ext (((Ext.of_below HB.out).trans hX : Ext w w2))
    have hbw := HB.out.size
    rw [← hw2]
    clear hw2
    refine wpIn_rangeFunc_ownF rfl _h1n (gf := 285) (lb := #[ptr w1.heap.size]) rfl trivial (enters_of Tryz.func285 (by kernel_rfl) rfl)
      (all_stops (n - 1) f w1.heap.size w2 hltf (by omega) hB2 hT2) (fun h k => h.trans k) (fun W l o o' _ hW ho _ => SetKeeps.put _ W l o o' hW ho) (Below.refl _ _) (fun _ => rfl)
      (fun pre W => NextRel J wr.heap.size wr pre W)
      (fun _ _ _ => False)
      (OwnFrom.and (Own.from (fun s A B row hs hg hr => ⟨cell_kept hs.1 hg hr, (frozen_kept hs.1 hg hr).trans hs.2⟩) _) (ownFrom_below (Nat.le_refl _) (by omega)))
      (fun _ _ _ _ _ hs _ _ => hs)
      ⟨⟨hbn, hfn⟩, hX.below⟩ ?a1 ?assign ?body ?done ?stop
    case assign =>
      intro l x W K hK
      gi_wp2
      exact hK
    case body =>
      rintro l pre ⟨j, hj, hbit⟩ W ⟨⟨hc, hf⟩, hBW⟩ _
      have hrbW : W.cell? ⟨w.heap.size, 0, none⟩ = some (ptr br) := (hBW.cell (p := ⟨w.heap.size, 0, none⟩) hrbl).trans hrb
      have hRW := (HR.out.below HB.out (by omega : br < w.heap.size)).below hBW (by omega)
      have hcj := hRW.cell hj
      have hjl := joinJ_lt J hRW.lt (valsOf pre)
      have hJl := hRW.lt j
      have hj2 : (j : Int) < 64 := by omega
      have hj0 : (0 : Int) ≤ j := by omega
      have HBW := hid hBW
      clear hBW hRW
      dsimp only at hc ⊢
      obtain ⟨jj, hjj⟩ : ∃ jj, joinJ J (valsOf pre) = jj := ⟨_, rfl⟩
      rw [hjj] at hc hjl
      have HJ := hid hjj
      clear hjj
      gi_wp2_with gi_region
      all_goals exact next_round pre hj hbit _ rfl (by omega) (by omega) HJ.out hc hf HBW.out hjl hJl
    case done =>
      rintro D xs W hD hxs ⟨⟨hc, hf⟩, hBW⟩ hK
      rw [show valsOf xs = bitsOf f from hxs] at hc
      have hjl := joinJ_lt J HR.out.lt (bitsOf f)
      have HBW := hid hBW
      have HK := hid hK
      clear hBW hK
      generalize hjj : joinJ J (bitsOf f) = jj at *
      gi_wp2_with fail
      have hand : bits BinOp.andNot IntKind.u64 (jj : Int) (s : Int) = ((jj &&& (18446744073709551615 - s) : Nat) : Int) := u64_andNot_nat jj s hjl hlts
      have hor : bits BinOp.or IntKind.u64 (s : Int) (jj : Int) = ((s ||| jj : Nat) : Int) := u64_or_nat s jj hlts hjl
      have hD2 : D < W.heap.size := (Array.getElem?_eq_some_iff.1 HK.out).1
      rw [hor, hand]
      refine ⟨⟨s ||| jj, jj &&& (18446744073709551615 - s), { target := .collected D, args := #[] } :: ds, .mk _ _ _ _ _ _ _ _ _ _ _ _ _ _ _ _ _ _ _ _ _ _ _ _ _ _, ?_, HB.out.trans (HBW.out.mono hbw), ?_, ?_⟩, ?_⟩
      · have := HI2.out.step HR.out.lt
        rw [hjj] at this
        exact this
      · exact (HBW.out.cell (p := ⟨w.heap.size, 0, none⟩) hrbl).trans hrb
      · exact .cons hD2 (by omega) HK.out ((HM.out.keep HBW.out.block).mono (by omega))
      · have := spreadLeft_lt HI2.out HR.out.lt HF.out
        rw [hjj] at this
        exact this
    case stop =>
      rintro D c pre W _ _ h _
      exact h.elim
end Go.Proofs.YtnippamifihdpaaGreatDoor
namespace Go.Proofs.YtnippamifihdpaaGreatDoor
open Go Go.RowKit

theorem is_any (a : Nat) (w : World) (ha : a < 64) : Calls Tryz.prog 172 #[.int .i64 a] w fun e w' => e = .returned (.bool true) ∧ w = w' := by
  have h0 : decide ((0 : Int) ≤ (a : Int)) = true := by simp
  have h1 : decide ((a : Int) < 64) = true := by simp; omega
  go_enter Tryz.func172, Tryz.ntmps172
  go_wp2_with fail
  go_ret
  exact ⟨rfl, rfl⟩

set_option maxHeartbeats 1000000 in
theorem rankHas_any (br a b : Nat) (J : Nat → Nat) (w : World) (hR : RankAt w br J) (ha : a < 64) (hb : b < 64) :
    Calls Tryz.prog 96 #[ptr br, .int .i64 a, .int .i64 b] w fun e w' => e = .returned (.bool ((J a).testBit b)) ∧ Ext w w' := by
  have hc := hR.cell ha
  have hJ := hR.lt a
  have ha0 : (0 : Int) ≤ a := by omega
  have ha1 : (a : Int) < 64 := by omega
  have HR := hid hR
  clear hR
  go_enter Tryz.func96, Tryz.ntmps96
  go_wp2_with (first | (go_at_call 172; refine (is_any a _ ha).mono ?_; rintro r w1 ⟨rfl, rfl⟩) | (go_at_call 173; refine (places_any (J a) _).mono ?_; rintro r w1 ⟨rfl, hE⟩; have HE := hid hE; clear hE) | (go_at_call 65; refine (has_in (J a) b _ hb hJ).mono ?_; rintro r w2 ⟨rfl, hE2⟩; have HE2 := hid hE2; clear hE2))
  go_ret
  exact ⟨rfl, HE.out.trans HE2.out⟩

theorem pow_lt (a : Nat) (ha : a < 64) : 2 ^ a < 18446744073709551616 := Nat.pow_lt_pow_right (n := 64) (by omega) ha

theorem wrap_pow (a : Nat) (ha : a < 64) : IntKind.u64.wrap ((2 : Int) ^ a) = ((2 ^ a : Nat) : Int) := by
  have h1 := pow_lt a ha
  rw [show (2 : Int) ^ a = ((2 ^ a : Nat) : Int) from by simp, wrap_u64]
  generalize 2 ^ a = p at h1 ⊢
  omega

set_option maxHeartbeats 1000000 in
theorem rankBelow_any (br a : Nat) (J : Nat → Nat) (w : World) (hR : RankAt w br J) (hT : Tab w) (ha : a < 64) :
    Calls Tryz.prog 231 #[ptr br, .int .i64 a] w fun e w' => e = .returned (.int .u64 (spread J (2 ^ a))) ∧ Ext w w' := by
  have HR := hid hR
  have HT := hid hT
  have ha0 : (0 : Int) ≤ a := by omega
  have ha1 : (a : Int) < 64 := by omega
  have hp := pow_lt a ha
  have HW := hid (wrap_pow a ha)
  clear hR hT
  go_enter Tryz.func231, Tryz.ntmps231
  go_wp2_with (first | (go_at_call 172; refine (is_any a _ ha).mono ?_; rintro r w1 ⟨rfl, rfl⟩) | (go_at_call 229; go_must (rw [HW.out]; refine (callsIn_wide.1 (spread_in 5 br (2 ^ a) J _ (Nat.le_refl _) HR.out HT.out hp)).mono ?_; rintro r w1 ⟨rfl, hB⟩; have HB := hid hB; clear hB)))
  go_ret
  exact ⟨rfl, Ext.of_below HB.out⟩

/-- A word turned at one place. -/
def setJ (J : Nat → Nat) (a x : Nat) : Nat → Nat := fun i => if i = a then x else J i
theorem RankAt.set {w : World} {br : Nat} {J : Nat → Nat} (h : RankAt w br J) {a : Nat} (ha : a < 64) (x : Nat) (hx : x < 18446744073709551616) : RankAt (w.setCell ⟨br, a, none⟩ (.int .u64 x)) br (setJ J a x) := by
  obtain ⟨cs, hb, hs, hc⟩ := h.blk
  refine ⟨⟨_, hb.setCell a _, by simpa using hs, fun i hi => ?_⟩, fun i => ?_⟩
  · unfold setJ
    by_cases hia : i = a
    · subst hia
      rw [if_pos rfl, Array.getElem?_setIfInBounds_self_of_lt (by omega)]
    · rw [if_neg hia, Array.getElem?_setIfInBounds_ne (by omega)]
      exact hc i hi
  · unfold setJ
    split
    · exact hx
    · exact h.lt i
theorem RankAt.drew {w : World} {br : Nat} {J : Nat → Nat} (h : RankAt w br J) : RankAt w.drew br J := h.fr ((Fr.refl (fun _ => False) w).drew) id
theorem RankAt.frozen {w : World} {br : Nat} {J : Nat → Nat} (h : RankAt w br J) (i : Nat) : w.frozen? ⟨br, i, none⟩ = false := by
  obtain ⟨cs, hb, hs, hc⟩ := h.blk
  exact hb.frozen i

theorem Fr.own {w w' : World} (h : Ext w w') (b o : Nat) (v : Value) : Fr (fun k => k = b) w (w'.setCell ⟨b, o, none⟩ v).drew :=
  ((h.mono fun _ _ => False.elim : Fr (fun k => k = b) w w').setCell (p := ⟨b, o, none⟩) (.inl rfl) v).drew

set_option maxHeartbeats 4000000 in
theorem over_hit (br a b : Nat) (J : Nat → Nat) (w : World) (hR : RankAt w br J) (hT : Tab w) (ha : a < 64) (hb : b < 64) (hbit : (J a).testBit b = false) (hcyc : (spread J (2 ^ b)).testBit a = false) (hsp : spread J (2 ^ b) < 18446744073709551616) :
    Calls Tryz.prog 169 #[ptr br, .int .i64 a, .int .i64 b] w fun e w' => e = .returned (.int .i64 0) ∧ RankAt w' br (setJ J a (J a ||| 2 ^ b)) ∧ Fr (fun k => k = br) w w' := by
  have HR := hid hR
  have HT := hid hT
  have ha0 : (0 : Int) ≤ a := by omega
  have ha1 : (a : Int) < 64 := by omega
  have hb0 : (0 : Int) ≤ b := by omega
  have hb1 : (b : Int) < 64 := by omega
  have hp := pow_lt b hb
  have hJ := hR.lt a
  have HW := hid (wrap_pow b hb)
  clear hR hT
  go_enter Tryz.func169, Tryz.ntmps169
  go_wp2_with (first | (go_at_call 172; refine (is_any _ _ (by with_reducible assumption)).mono ?_; rintro r w1 ⟨rfl, rfl⟩) | (go_at_call 96; refine (rankHas_any br a b J _ HR.out ha hb).mono ?_; rintro r w1 ⟨rfl, hE⟩; rw [hbit]; have HE := hid hE; clear hE) | (go_at_call 231; refine (rankBelow_any br b J w1 (HR.out.fr HE.out id) (HT.out.ext HE.out) hb).mono ?_; rintro r w2 ⟨rfl, hE2⟩; have HE2 := hid hE2; clear hE2) | (go_at_call 173; refine (places_any (spread J (2 ^ b)) _).mono ?_; rintro r w3 ⟨rfl, hE3⟩; have HE3 := hid hE3; clear hE3) | (go_at_call 65; refine (has_in (spread J (2 ^ b)) a _ ha hsp).mono ?_; rintro r w4 ⟨rfl, hE4⟩; rw [hcyc]; have HE4 := hid (HE.out.trans (HE2.out.trans (HE3.out.trans hE4))); clear hE4; have hR4 := HR.out.fr HE4.out id; have hc4 := hR4.cell ha; have hf4 := hR4.frozen a; have HR4 := hid hR4; clear hR4) | go_region)
  go_ret
  refine ⟨rfl, ?_, Fr.own HE4.out _ _ _⟩
  rw [HW.out, u64_or_nat _ _ hJ hp]
  exact (HR4.out.set ha _ (Nat.or_lt_two_pow (n := 64) hJ hp)).drew
set_option maxHeartbeats 4000000 in
theorem over_twice (br a b : Nat) (J : Nat → Nat) (w : World) (hR : RankAt w br J) (ha : a < 64) (hb : b < 64) (hbit : (J a).testBit b = true) :
    Calls Tryz.prog 169 #[ptr br, .int .i64 a, .int .i64 b] w fun e w' => e = .returned (.int .i64 5) ∧ Ext w w' := by
  have HR := hid hR
  clear hR
  go_enter Tryz.func169, Tryz.ntmps169
  go_wp2_with (first | (go_at_call 172; refine (is_any _ _ (by with_reducible assumption)).mono ?_; rintro r w1 ⟨rfl, rfl⟩) | (go_at_call 96; refine (rankHas_any br a b J _ HR.out ha hb).mono ?_; rintro r w1 ⟨rfl, hE⟩; rw [hbit]; have HE := hid hE; clear hE))
  go_ret
  exact ⟨rfl, HE.out⟩
set_option maxHeartbeats 4000000 in
theorem over_cycle (br a b : Nat) (J : Nat → Nat) (w : World) (hR : RankAt w br J) (hT : Tab w) (ha : a < 64) (hb : b < 64) (hbit : (J a).testBit b = false) (hcyc : (spread J (2 ^ b)).testBit a = true) (hsp : spread J (2 ^ b) < 18446744073709551616) :
    Calls Tryz.prog 169 #[ptr br, .int .i64 a, .int .i64 b] w fun e w' => e = .returned (.int .i64 6) ∧ Ext w w' := by
  have HR := hid hR
  have HT := hid hT
  have ha0 : (0 : Int) ≤ a := by omega
  have ha1 : (a : Int) < 64 := by omega
  have hb0 : (0 : Int) ≤ b := by omega
  have hb1 : (b : Int) < 64 := by omega
  have hp := pow_lt b hb
  have hJ := hR.lt a
  have HW := hid (wrap_pow b hb)
  clear hR hT
  go_enter Tryz.func169, Tryz.ntmps169
  go_wp2_with (first | (go_at_call 172; refine (is_any _ _ (by with_reducible assumption)).mono ?_; rintro r w1 ⟨rfl, rfl⟩) | (go_at_call 96; refine (rankHas_any br a b J _ HR.out ha hb).mono ?_; rintro r w1 ⟨rfl, hE⟩; rw [hbit]; have HE := hid hE; clear hE) | (go_at_call 231; refine (rankBelow_any br b J w1 (HR.out.fr HE.out id) (HT.out.ext HE.out) hb).mono ?_; rintro r w2 ⟨rfl, hE2⟩; have HE2 := hid hE2; clear hE2) | (go_at_call 173; refine (places_any (spread J (2 ^ b)) _).mono ?_; rintro r w3 ⟨rfl, hE3⟩; have HE3 := hid hE3; clear hE3) | (go_at_call 65; refine (has_in (spread J (2 ^ b)) a _ ha hsp).mono ?_; rintro r w4 ⟨rfl, hE4⟩; rw [hcyc]; have HE4 := hid (HE.out.trans (HE2.out.trans (HE3.out.trans hE4))); clear hE4))
  go_ret
  exact ⟨rfl, HE4.out⟩

/-- What the place a, laid over the place b, makes of a hierarchy; and the code. -/
noncomputable def overJ (J : Nat → Nat) (a b : Nat) : Nat × (Nat → Nat) :=
  if (J a).testBit b then (5, J) else if (spread J (2 ^ b)).testBit a then (6, J) else (0, setJ J a (J a ||| 2 ^ b))
theorem rankOver_any (br a b : Nat) (J : Nat → Nat) (w : World) (hR : RankAt w br J) (hT : Tab w) (ha : a < 64) (hb : b < 64) (hsp : spread J (2 ^ b) < 18446744073709551616) :
    Calls Tryz.prog 169 #[ptr br, .int .i64 a, .int .i64 b] w fun e w' => e = .returned (.int .i64 (overJ J a b).1) ∧ RankAt w' br (overJ J a b).2 ∧ Fr (fun k => k = br) w w' := by
  unfold overJ
  cases hbit : (J a).testBit b
  · cases hcyc : (spread J (2 ^ b)).testBit a
    · exact over_hit br a b J w hR hT ha hb hbit hcyc hsp
    · exact (over_cycle br a b J w hR hT ha hb hbit hcyc hsp).mono fun e w' h => ⟨h.1, hR.fr h.2 id, h.2.mono fun _ _ => False.elim⟩
  · exact (over_twice br a b J w hR ha hb hbit).mono fun e w' h => ⟨h.1, hR.fr h.2 id, h.2.mono fun _ _ => False.elim⟩

set_option maxHeartbeats 4000000 in
theorem cut_hit (br a b : Nat) (J : Nat → Nat) (w : World) (hR : RankAt w br J) (ha : a < 64) (hb : b < 64) (hbit : (J a).testBit b = true) :
    Calls Tryz.prog 170 #[ptr br, .int .i64 a, .int .i64 b] w fun e w' => e = .returned (.int .i64 0) ∧ RankAt w' br (setJ J a (J a &&& (18446744073709551615 - 2 ^ b))) ∧ Fr (fun k => k = br) w w' := by
  have HR := hid hR
  have ha0 : (0 : Int) ≤ a := by omega
  have ha1 : (a : Int) < 64 := by omega
  have hb0 : (0 : Int) ≤ b := by omega
  have hb1 : (b : Int) < 64 := by omega
  have hp := pow_lt b hb
  have hJ := hR.lt a
  have HW := hid (wrap_pow b hb)
  clear hR
  go_enter Tryz.func170, Tryz.ntmps170
  go_wp2_with (first | (go_at_call 172; refine (is_any _ _ (by with_reducible assumption)).mono ?_; rintro r w1 ⟨rfl, rfl⟩) | (go_at_call 96; refine (rankHas_any br a b J _ HR.out ha hb).mono ?_; rintro r w1 ⟨rfl, hE⟩; rw [hbit]; have HE4 := hid hE; clear hE; have hR4 := HR.out.fr HE4.out id; have hc4 := hR4.cell ha; have hf4 := hR4.frozen a; have HR4 := hid hR4; clear hR4) | go_region)
  go_ret
  refine ⟨rfl, ?_, Fr.own HE4.out _ _ _⟩
  rw [HW.out, u64_andNot_nat _ _ hJ hp]
  exact (HR4.out.set ha _ (Nat.lt_of_le_of_lt Nat.and_le_left hJ)).drew
set_option maxHeartbeats 4000000 in
theorem cut_miss (br a b : Nat) (J : Nat → Nat) (w : World) (hR : RankAt w br J) (ha : a < 64) (hb : b < 64) (hbit : (J a).testBit b = false) :
    Calls Tryz.prog 170 #[ptr br, .int .i64 a, .int .i64 b] w fun e w' => e = .returned (.int .i64 26) ∧ Ext w w' := by
  have HR := hid hR
  clear hR
  go_enter Tryz.func170, Tryz.ntmps170
  go_wp2_with (first | (go_at_call 172; refine (is_any _ _ (by with_reducible assumption)).mono ?_; rintro r w1 ⟨rfl, rfl⟩) | (go_at_call 96; refine (rankHas_any br a b J _ HR.out ha hb).mono ?_; rintro r w1 ⟨rfl, hE⟩; rw [hbit]; have HE := hid hE; clear hE))
  go_ret
  exact ⟨rfl, HE.out⟩

/-- What cutting the link from a to b makes of a hierarchy; and the code. -/
def cutJ (J : Nat → Nat) (a b : Nat) : Nat × (Nat → Nat) :=
  if (J a).testBit b then (0, setJ J a (J a &&& (18446744073709551615 - 2 ^ b))) else (26, J)
theorem rankCut_any (br a b : Nat) (J : Nat → Nat) (w : World) (hR : RankAt w br J) (ha : a < 64) (hb : b < 64) :
    Calls Tryz.prog 170 #[ptr br, .int .i64 a, .int .i64 b] w fun e w' => e = .returned (.int .i64 (cutJ J a b).1) ∧ RankAt w' br (cutJ J a b).2 ∧ Fr (fun k => k = br) w w' := by
  unfold cutJ
  cases hbit : (J a).testBit b
  · exact (cut_miss br a b J w hR ha hb hbit).mono fun e w' h => ⟨h.1, hR.fr h.2 id, h.2.mono fun _ _ => False.elim⟩
  · exact cut_hit br a b J w hR ha hb hbit

theorem new_any (w : World) : Calls Tryz.prog 103 #[] w fun e w' => e = .returned (ptr w.heap.size) ∧ RankAt w' w.heap.size (fun _ => 0) ∧ Ext w w' := by
  go_enter Tryz.func103, Tryz.ntmps103
  go_wp2_with fail
  go_ret
  exact ⟨rfl, ⟨⟨Array.replicate 64 (.int .u64 0), Blk.new w _ _, by simp, fun i hi => by simp [hi]⟩, fun _ => by omega⟩, (Fr.refl _ w).alloc _⟩

/-- What the dropping of a place has made of a hierarchy, k places gone through. -/
def dropTo (J : Nat → Nat) (a : Nat) : Nat → Nat → Nat
  | 0 => setJ J a 0
  | k + 1 => (cutJ (dropTo J a k) k a).2
def DropRel (w : World) (br a : Nat) (J : Nat → Nat) (n k : Value) (wr : World) : Prop :=
  ∃ (nn : Int) (kk : Nat), n = .int .i64 nn ∧ k = .int .i64 kk ∧ kk ≤ 64 ∧ RankAt wr br (dropTo J a kk) ∧ Fr (fun k => k = br) w wr
def dropMu : Value → Nat | .int _ q => (64 - q).toNat | _ => 0

theorem len_set (s : Nat) (w : World) : Calls Tryz.prog 230 #[.agg #[.int .u64 s]] w fun e w' => (∃ n : Int, e = .returned (.int .i64 n)) ∧ Ext w w' := by
  go_enter Tryz.func230, Tryz.ntmps230
  go_wp2_with (go_at_call 245; refine (ones_any _ _).mono ?_; rintro r w1 ⟨rfl, rfl⟩)
  go_ret
  exact ⟨⟨_, rfl⟩, (Fr.refl _ w).alloc _⟩

theorem drop_rel {w w3 : World} {br a kk k1 : Nat} {J : Nat → Nat} {nn : Int} (hk : kk + 1 = k1) (h64 : k1 ≤ 64) (hR : RankAt w3 br (cutJ (dropTo J a kk) kk a).2) (hF : Fr (fun k => k = br) w w3) :
    DropRel w br a J (.int .i64 nn) (.int .i64 k1) w3 := by
  subst hk
  exact ⟨nn, kk + 1, rfl, rfl, h64, hR, hF⟩
theorem drop_mu {kk k1 : Nat} (hk : (kk : Int) + 1 = k1) (h : kk < 64) : dropMu (.int .i64 (k1 : Int)) < dropMu (.int .i64 (kk : Int)) := by
  show (64 - (k1 : Int)).toNat < (64 - (kk : Int)).toNat
  omega

set_option maxHeartbeats 4000000 in
theorem rankDrop_any (br a : Nat) (J : Nat → Nat) (w : World) (hR : RankAt w br J) (ha : a < 64) :
    Calls Tryz.prog 167 #[ptr br, .int .i64 a] w fun e w' => (∃ n : Int, e = .returned (.int .i64 n)) ∧ RankAt w' br (dropTo J a 64) ∧ Fr (fun k => k = br) w w' := by
  have hc := hR.cell ha
  have HR := hid hR
  have ha0 : (0 : Int) ≤ a := by omega
  have ha1 : (a : Int) < 64 := by omega
  clear hR
  go_enter Tryz.func167, Tryz.ntmps167
  go_wp2_with (first | (go_at_call 172; refine (is_any _ _ (by with_reducible assumption)).mono ?_; rintro r w1 ⟨rfl, rfl⟩) | (go_at_call 173; refine (places_any (J a) _).mono ?_; rintro r w1 ⟨rfl, hE⟩; have HE := hid hE; clear hE) | (go_at_call 230; refine (len_set (J a) _).mono ?_; rintro r w2 ⟨⟨n, rfl⟩, hE2⟩; have HE4 := hid (HE.out.trans hE2); clear hE2; have hR4 := HR.out.fr HE4.out id; have hc4 := hR4.cell ha; have hf4 := hR4.frozen a; have HR4 := hid hR4; clear hR4))
  have H0 : Hid (DropRel w br a J (.int .i64 n) (.int .i64 ((0 : Nat) : Int)) (w2.setCell ⟨br, a, none⟩ (.int .u64 0))) := hid ⟨n, 0, rfl, rfl, by omega, HR4.out.set ha 0 (by omega), (HE4.out.mono fun _ _ => False.elim : Fr (fun k => k = br) w w2).setCell (p := ⟨br, a, none⟩) (.inl rfl) _⟩
  clear hc4 hf4
  go_loopw [5, 23] (fun n k wr => DropRel w br a J n k wr) (fun _ k _ => dropMu k)
  case atStart => exact H0.out
  case round =>
    clear H0
    obtain ⟨nn, kk, rfl, rfl, hk, hR, hF⟩ := hrel
    have HR5 := hid hR
    have HF := hid hF
    clear hR hF
    by_cases hk2 : kk < 64
    · have h1 : decide ((kk : Int) < 64) = true := by simp; omega
      obtain ⟨k1, hk1⟩ : ∃ k1, kk + 1 = k1 := ⟨_, rfl⟩
      have e1 : (kk : Int) + 1 = (k1 : Int) := by omega
      have hk64 : k1 ≤ 64 := by omega
      have HK := hid hk1
      clear hk1
      go_wp2_with (go_at_call 170; refine (rankCut_any br kk a _ _ HR5.out hk2 ha).mono ?_; rintro r w3 ⟨rfl, hR6, hF6⟩; have HR6 := hid hR6; have HF6 := hid (HF.out.trans hF6); clear hR6 hF6)
      all_goals go_roundw
      all_goals first
        | exact drop_rel HK.out hk64 HR6.out HF6.out
        | exact drop_mu (by omega) hk2
    · have h1 : decide ((kk : Int) < 64) = false := by simp; omega
      have : kk = 64 := by omega
      subst this
      go_wp2_with fail
      go_ret
      exact ⟨⟨_, rfl⟩, HR5.out, HF.out⟩
end Go.Proofs.YtnippamifihdpaaGreatDoor
