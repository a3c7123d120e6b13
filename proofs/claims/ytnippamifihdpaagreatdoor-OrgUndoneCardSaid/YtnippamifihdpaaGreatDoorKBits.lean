/- bits: sets of small numbers in a word. bits.Set[uint64]: Has, Next, All. bits.Set[uint64].All: the iterator. rank: what a hierarchy holds; Spread. rank, the plain law: spread is what lies under. -/
import Derived.Test.YtnippamifihdpaaGreatDoorKBase
import Derived.Lib.TrailingZeros
import Derived.KernelRfl
import Derived.Deep.RegionHeld3
import Derived.RangeFuncNested
import Derived.RangeFuncBound
import Derived.RangeFuncCalls
import Derived.RangeFuncLeaves
import Derived.RangeFuncWrites
import Derived.Shelf.Abstract
import Derived.OwnWalkIn
import Derived.TacticsInMore
import Derived.RegionIn
import Derived.LoopNIn
import Derived.LoopIn
import Derived.RangeFuncFrom
namespace Go.Proofs.YtnippamifihdpaaGreatDoor
open Go Go.RowKit

/-- math/bits' table lies in its variable. -/
def Tab (w : World) : Prop := ∀ j, j < Lib.deBruijn64tab.length → w.cell? ⟨6, j, none⟩ = some (.int .u8 (Lib.deBruijn64tab.getD j 0))
theorem Tab.fr {S : Nat → Prop} {w w' : World} (h : Tab w) (k : Fr S w w') (hn : ¬ S 6) : Tab w' := fun j hj =>
  (Fr.cell k (World.block_lt_of_cell? w ⟨6, j, none⟩ (h j hj)) hn).trans (h j hj)
theorem Tab.ext {w w' : World} (h : Tab w) (k : Ext w w') : Tab w' := h.fr k id

theorem wrap_u64 (n : Int) : IntKind.u64.wrap n = n % 18446744073709551616 := by simp [IntKind.wrap, IntKind.signed, IntKind.bits]

set_option maxHeartbeats 1000000 in
theorem tz64_core (x k idx : Nat) (w : World) (hx0 : ((x : Int) == 0) = false)
    (key : IntKind.u64.wrap (bits BinOp.and IntKind.u64 (x : Int) (IntKind.u64.wrap (-(x : Int))) * 285870213051353865) / 288230376151711744 = (idx : Int))
    (hi : idx < 64) (hcell : w.cell? ⟨6, idx, none⟩ = some (.int .u8 k)) (hk : k < 64) :
    Calls Tryz.prog 299 #[.int .u64 x] w fun e w' => e = .returned (.int .i64 k) ∧ w = w' := by
  go_enter Tryz.func299, Tryz.ntmps299
  go_wp2
  go_ret
  exact ⟨rfl, rfl⟩

theorem tz64_key (x a : Nat) (hx : x < 18446744073709551616) (hx0 : x ≠ 0) (hlow : x &&& (2 ^ 64 - x) = a) :
    IntKind.u64.wrap (bits BinOp.and IntKind.u64 (x : Int) (IntKind.u64.wrap (-(x : Int))) * 285870213051353865) / 288230376151711744 = ((a * 285870213051353865 % 18446744073709551616 / 288230376151711744 : Nat) : Int) := by
  have hlow' : x &&& (18446744073709551616 - x) = a := hlow
  have e1 : IntKind.u64.wrap (-(x : Int)) = ((18446744073709551616 - x : Nat) : Int) := by rw [wrap_u64]; omega
  rw [e1, bits_and_u64_nat x _ hx (by omega), hlow', wrap_u64]
  omega

theorem tz64_any (x : Nat) (hx : x < 18446744073709551616) (hx0 : x ≠ 0) (w : World) (hT : Tab w) :
    Calls Tryz.prog 299 #[.int .u64 x] w fun e w' => e = .returned (.int .i64 (Lib.ctz 64 x)) ∧ w = w' := by
  obtain ⟨hlow, hk⟩ := Lib.lowest_bit 64 x hx0 hx
  obtain ⟨hi, htab⟩ := Lib.deBruijn64_at _ hk
  have key := tz64_key x _ hx hx0 hlow
  have hc := hT _ (show 2 ^ Lib.ctz 64 x * 285870213051353865 % 18446744073709551616 / 288230376151711744 < Lib.deBruijn64tab.length from hi)
  rw [htab] at hc
  exact tz64_core x _ _ w (by rw [beq_eq_false_iff_ne]; omega) key hi hc hk

/-- The word of ones below place i; what OnesCount64 reckons, step by step. -/
def lowMask (i : Nat) : Nat := 2 ^ i - 1
def onesI (x : Int) : Int :=
  let u := IntKind.u64
  let x1 := u.wrap (bits .and u (x / 2) 6148914691236517205 + bits .and u x 6148914691236517205)
  let x2 := u.wrap (bits .and u (x1 / 4) 3689348814741910323 + bits .and u x1 3689348814741910323)
  let x3 := bits .and u (u.wrap (x2 / 16 + x2)) 1085102592571150095
  let x4 := u.wrap (x3 + x3 / 256)
  let x5 := u.wrap (x4 + x4 / 65536)
  let x6 := u.wrap (x5 + x5 / 4294967296)
  bits .and .i64 (wrap64 x6) 127
theorem onesI_full : onesI 18446744073709551615 = 64 := by decide +kernel

set_option maxHeartbeats 1000000 in
theorem ones_any (x : Int) (w : World) : Calls Tryz.prog 245 #[.int .u64 x] w fun e w' => e = .returned (.int .i64 (onesI x)) ∧ w = w' := by
  go_enter Tryz.func245, Tryz.ntmps245
  go_wp2
  go_ret
  exact ⟨ret_int rfl, rfl⟩

theorem ones_full (w : World) : Calls Tryz.prog 245 #[.int .u64 (bits BinOp.xor IntKind.u64 IntKind.u64.max 0)] w fun e w' => e = .returned (.int .i64 64) ∧ w = w' := by
  have e : bits BinOp.xor IntKind.u64 IntKind.u64.max 0 = 18446744073709551615 := by decide +kernel
  rw [e]
  refine (ones_any _ w).mono ?_
  rintro r w' ⟨rfl, rfl⟩
  exact ⟨ret_int onesI_full, rfl⟩

set_option maxHeartbeats 1000000 in
theorem width_any (s : Value) (w : World) (hs : s = .agg #[.int .u64 0] ∨ ∃ n, s = .agg #[.int .u64 n]) :
    Calls Tryz.prog 219 #[s] w fun e w' => e = .returned (.int .i64 64) ∧ Ext w w' := by
  obtain ⟨n, rfl⟩ : ∃ n, s = .agg #[.int .u64 n] := by rcases hs with h | h; exact ⟨0, h⟩; exact h
  go_enter Tryz.func219, Tryz.ntmps219
  go_wp2_with (go_at_call 245; refine (ones_full _).mono ?_; rintro r w' ⟨rfl, rfl⟩)
  go_ret
  exact ⟨rfl, (Ext.refl w).alloc _⟩
end Go.Proofs.YtnippamifihdpaaGreatDoor
namespace Go.Proofs.YtnippamifihdpaaGreatDoor
open Go Go.RowKit

theorem testBit_bits (s i : Nat) (hs : s < 18446744073709551616) : (bits BinOp.and IntKind.u64 ((s : Int) / 2 ^ i) 1 == 1) = s.testBit i := by
  have e : ((s : Int) / 2 ^ i) = ((s / 2 ^ i : Nat) : Int) := by simp
  have h1 : s / 2 ^ i < 18446744073709551616 := Nat.lt_of_le_of_lt (Nat.div_le_self _ _) hs
  rw [e, show (1 : Int) = ((1 : Nat) : Int) from rfl, bits_and_u64_nat _ 1 h1 (by omega), Nat.testBit_eq_decide_div_mod_eq, Nat.and_one_is_mod]
  rw [Bool.eq_iff_iff]
  simp
  omega
theorem xor_full : bits BinOp.xor IntKind.u64 IntKind.u64.max 0 = 18446744073709551615 := by decide +kernel
theorem wrap_low (i : Nat) (hi : i < 64) : IntKind.u64.wrap (IntKind.u64.wrap (2 ^ i) - 1) = ((lowMask i : Nat) : Int) := by
  have h1 : 2 ^ i < 2 ^ 64 := Nat.pow_lt_pow_right (by omega) hi
  have h2 : 0 < 2 ^ i := Nat.pow_pos (by omega)
  have e : (2 : Int) ^ i = ((2 ^ i : Nat) : Int) := by simp
  unfold lowMask
  rw [e, wrap_u64, wrap_u64]
  generalize 2 ^ i = p at *
  omega

set_option maxHeartbeats 1000000 in
theorem has_in (s i : Nat) (w : World) (hi : i < 64) (hs : s < 18446744073709551616) :
    Calls Tryz.prog 65 #[.agg #[.int .u64 s], .int .i64 i] w fun e w' => e = .returned (.bool (s.testBit i)) ∧ Ext w w' := by
  have hi' : (0 : Int) ≤ i := by omega
  have hi2 : decide ((i : Int) < 64) = true := by simp; omega
  go_enter Tryz.func65, Tryz.ntmps65
  go_wp2_with (first | (go_at_call 219; refine (width_any _ _ (.inr ⟨_, rfl⟩)).mono ?_; rintro r w' ⟨rfl, hE⟩; obtain ⟨hc, _hf⟩ := hE.cells; have HE := hid hE; clear hE) | go_in)
  go_ret
  exact ⟨ret_bool (testBit_bits s i hs), HE.out.of_alloc.of_alloc⟩

/-- The word of the ones below place i, of the 64 that there are. -/
def belowN (i : Nat) : Nat := if 64 ≤ i then 18446744073709551615 else lowMask i

set_option maxHeartbeats 1000000 in
theorem below_any (s i : Nat) (w : World) (h0 : 0 < i) :
    Calls Tryz.prog 298 #[.agg #[.int .u64 s], .int .i64 i] w fun e w' => e = .returned (.int .u64 (belowN i)) ∧ Ext w w' := by
  by_cases h : 64 ≤ i
  · have h1 : ¬ (i : Int) ≤ 0 := by omega
    have h2 : decide ((64 : Int) ≤ (i : Int)) = true := by simp; omega
    go_enter Tryz.func298, Tryz.ntmps298
    go_wp2_with (first | (go_at_call 219; refine (width_any _ _ (.inr ⟨_, rfl⟩)).mono ?_; rintro r w' ⟨rfl, hE⟩; obtain ⟨hc, _hf⟩ := hE.cells; have HE := hid hE; clear hE) | go_in)
    go_ret
    exact ⟨ret_int (by rw [belowN, if_pos (by assumption)]; exact xor_full), HE.out.of_alloc⟩
  · have h1 : ¬ (i : Int) ≤ 0 := by omega
    have h2 : decide ((64 : Int) ≤ (i : Int)) = false := by simp; omega
    go_enter Tryz.func298, Tryz.ntmps298
    go_wp2_with (first | (go_at_call 219; refine (width_any _ _ (.inr ⟨_, rfl⟩)).mono ?_; rintro r w' ⟨rfl, hE⟩; obtain ⟨hc, _hf⟩ := hE.cells; have HE := hid hE; clear hE) | go_in)
    go_ret
    exact ⟨ret_int (by rw [belowN, if_neg (by assumption)]; exact wrap_low i (by omega)), HE.out.of_alloc⟩
set_option maxHeartbeats 1000000 in
theorem has_out (s : Nat) (i : Int) (w : World) (hi : i < 0 ∨ 64 ≤ i) :
    Calls Tryz.prog 65 #[.agg #[.int .u64 s], .int .i64 i] w fun e w' => e = .returned (.bool false) ∧ Ext w w' := by
  by_cases h0 : 0 ≤ i
  · have hi2 : decide (i < 64) = false := by simp; omega
    go_enter Tryz.func65, Tryz.ntmps65
    go_wp2_with (first | (go_at_call 219; refine (width_any _ _ (.inr ⟨_, rfl⟩)).mono ?_; rintro r w' ⟨rfl, hE⟩; obtain ⟨hc, _hf⟩ := hE.cells; have HE := hid hE; clear hE) | go_in)
    go_ret
    exact ⟨rfl, HE.out.of_alloc.of_alloc⟩
  · have h1 : decide (0 ≤ i) = false := by simp; omega
    go_enter Tryz.func65, Tryz.ntmps65
    go_wp2_with (first | (go_at_call 219; refine (width_any _ _ (.inr ⟨_, rfl⟩)).mono ?_; rintro r w' ⟨rfl, hE⟩; obtain ⟨hc, _hf⟩ := hE.cells; have HE := hid hE; clear hE) | go_in)
    go_ret
    exact ⟨rfl, ((Ext.refl w).alloc _).alloc _⟩

/-- The places of a word from i on, rising. -/
def bitsFrom (s i : Nat) : List Nat := (List.range' i (64 - i)).filter fun j => s.testBit j
/-- The places of a word, rising. -/
def bitsOf (s : Nat) : List Nat := bitsFrom s 0
/-- The first of them; -1: there is none. -/
def nextI (s i : Nat) : Int := match bitsFrom s i with | [] => -1 | j :: _ => j

theorem mem_bitsFrom {s i j : Nat} : j ∈ bitsFrom s i ↔ i ≤ j ∧ j < 64 ∧ s.testBit j = true := by
  unfold bitsFrom
  rw [List.mem_filter, List.mem_range'_1]
  constructor
  · rintro ⟨h, h2⟩; exact ⟨h.1, by omega, h2⟩
  · rintro ⟨h1, h2, h3⟩; exact ⟨⟨h1, by omega⟩, h3⟩
theorem bitsFrom_step (s i : Nat) (hi : i < 64) : bitsFrom s i = if s.testBit i then i :: bitsFrom s (i + 1) else bitsFrom s (i + 1) := by
  unfold bitsFrom
  rw [show 64 - i = (64 - (i + 1)) + 1 from by omega, List.range'_succ, List.filter_cons]
theorem bitsFrom_end (s i : Nat) (hi : 64 ≤ i) : bitsFrom s i = [] := by
  unfold bitsFrom
  rw [show 64 - i = 0 from by omega]
  rfl
/-- Behind the first place come those from the next on. -/
theorem bitsFrom_cons {s j : Nat} {t : List Nat} (d : Nat) : ∀ i, i + d = 64 → bitsFrom s i = j :: t → i ≤ j ∧ j < 64 ∧ s.testBit j = true ∧ t = bitsFrom s (j + 1) := by
  induction d with
  | zero => intro i hi h; rw [bitsFrom_end s i (by omega)] at h; cases h
  | succ d ih =>
    intro i hi h
    rw [bitsFrom_step s i (by omega)] at h
    split at h
    · rename_i hb
      injection h with h1 h2
      subst h1
      exact ⟨Nat.le_refl _, by omega, hb, h2.symm⟩
    · obtain ⟨h1, h2⟩ := ih (i + 1) (by omega) h
      exact ⟨by omega, h2⟩
theorem bitsFrom_first {s i k : Nat} (hik : i ≤ k) (hk : k < 64) (hb : s.testBit k = true) (hlow : ∀ j, i ≤ j → j < k → s.testBit j = false) : bitsFrom s i = k :: bitsFrom s (k + 1) := by
  obtain ⟨d, hd⟩ : ∃ d, i + d = k := ⟨k - i, by omega⟩
  induction d generalizing i with
  | zero => have : i = k := by omega
            subst this; rw [bitsFrom_step s i hk, if_pos hb]
  | succ d ih =>
    rw [bitsFrom_step s i (by omega), if_neg (by rw [hlow i (Nat.le_refl _) (by omega)]; simp)]
    exact ih (by omega) (fun j hj hjk => hlow j (by omega) hjk) (by omega)
theorem bitsFrom_none {s i : Nat} (h : ∀ j, i ≤ j → j < 64 → s.testBit j = false) : bitsFrom s i = [] := by
  unfold bitsFrom
  rw [List.filter_eq_nil_iff]
  intro j hj
  rw [List.mem_range'_1] at hj
  rw [h j hj.1 (by omega)]
  simp

/-- What is left of a word from place i on. -/
def highPart (s i : Nat) : Nat := if 64 ≤ i then 0 else s &&& (18446744073709551615 - lowMask i)
theorem testBit_high (s i j : Nat) (_hs : s < 18446744073709551616) (hj : j < 64) : (highPart s i).testBit j = (decide (i ≤ j) && s.testBit j) := by
  unfold highPart
  split
  · rename_i h
    simp
    omega
  · rename_i h
    unfold lowMask
    have h1 : 2 ^ i ≤ 2 ^ 64 := Nat.pow_le_pow_right (by omega) (by omega)
    have h2 : 0 < 2 ^ i := Nat.pow_pos (by omega)
    have e : 18446744073709551615 - (2 ^ i - 1) = 2 ^ 64 - ((2 ^ i - 1) + 1) := by omega
    rw [Nat.testBit_and, e, Nat.testBit_two_pow_sub_succ (by omega), Nat.testBit_two_pow_sub_one]
    by_cases hij : i ≤ j
    · simp [hij, hj]
    · simp [hij]
      omega
theorem high_lt (s i : Nat) (hs : s < 18446744073709551616) : highPart s i < 18446744073709551616 := by
  unfold highPart
  split
  · omega
  · exact Nat.lt_of_le_of_lt Nat.and_le_left hs
theorem ctz_spec (x : Nat) (h0 : x ≠ 0) (hx : x < 18446744073709551616) : Lib.ctz 64 x < 64 ∧ x.testBit (Lib.ctz 64 x) = true ∧ ∀ j, j < Lib.ctz 64 x → x.testBit j = false := by
  obtain ⟨m, h1, h2⟩ := Lib.ctzFrom_spec 64 x (by omega) hx
  have e : Lib.ctz 64 x = Lib.ctzFrom 64 x := by unfold Lib.ctz; rw [if_neg h0]
  rw [e]
  generalize Lib.ctzFrom 64 x = k at *
  refine ⟨h2, ?_, ?_⟩
  · rw [h1, Nat.testBit_eq_decide_div_mod_eq, Nat.mul_div_cancel_left _ (Nat.pow_pos (by omega))]
    simp
  · intro j hj
    rw [h1, Nat.testBit_eq_decide_div_mod_eq]
    obtain ⟨d, rfl⟩ : ∃ d, k = j + 1 + d := ⟨k - (j + 1), by omega⟩
    have : 2 ^ (j + 1 + d) * (2 * m + 1) = 2 ^ j * (2 * (2 ^ d * (2 * m + 1))) := by rw [Nat.pow_add, Nat.pow_succ]; simp only [Nat.mul_assoc]
    rw [this, Nat.mul_div_cancel_left _ (Nat.pow_pos (by omega))]
    simp
theorem nextI_zero {s i : Nat} (hs : s < 18446744073709551616) (h : highPart s i = 0) : nextI s i = -1 := by
  unfold nextI
  rw [bitsFrom_none]
  intro j hij hj
  have := testBit_high s i j hs hj
  rw [h] at this
  simpa [hij] using this.symm
theorem nextI_ctz {s i : Nat} (hs : s < 18446744073709551616) (h : highPart s i ≠ 0) : nextI s i = Lib.ctz 64 (highPart s i) := by
  obtain ⟨h1, h2, h3⟩ := ctz_spec _ h (high_lt s i hs)
  rw [testBit_high s i _ hs h1] at h2
  simp at h2
  unfold nextI
  rw [bitsFrom_first h2.1 h1 h2.2 fun j hij hj => by
    have := h3 j hj
    rw [testBit_high s i j hs (by omega)] at this
    simpa [hij] using this]
theorem andNot_low (s i : Nat) (hs : s < 18446744073709551616) (h0 : 0 < i) :
    bits BinOp.andNot IntKind.u64 (s : Int) ((belowN i : Nat) : Int) = ((highPart s i : Nat) : Int) := by
  unfold highPart belowN
  split
  · rw [u64_andNot_nat s 18446744073709551615 hs (by omega)]
    simp
  · rename_i h
    have h1 : 2 ^ i ≤ 2 ^ 64 := Nat.pow_le_pow_right (by omega) (by omega)
    rw [u64_andNot_nat s _ hs (by unfold lowMask; omega)]
theorem highPart_zero (s : Nat) (hs : s < 18446744073709551616) : highPart s 0 = s := by
  unfold highPart
  rw [if_neg (by omega)]
  unfold lowMask
  have : s &&& (2 ^ 64 - 1) = s % 2 ^ 64 := Nat.and_two_pow_sub_one_eq_mod s 64
  simp only [Nat.pow_zero, Nat.sub_self, Nat.sub_zero]
  rw [show (18446744073709551615 : Nat) = 2 ^ 64 - 1 from rfl, this]
  omega

set_option maxRecDepth 100000 in
set_option maxHeartbeats 4000000 in
theorem next_any (s i : Nat) (w : World) (hs : s < 18446744073709551616) (hT : Tab w) :
    Calls Tryz.prog 286 #[.agg #[.int .u64 s], .int .i64 i] w fun e w' => e = .returned (.int .i64 (nextI s i)) ∧ Ext w w' := by
  have hTl : 6 < w.heap.size := World.block_lt_of_cell? w ⟨6, 0, none⟩ (hT 0 (by decide))
  have HT := hid hT
  have hlt := high_lt s i hs
  by_cases h0 : i = 0
  · subst h0
    have h1 : decide (0 < (0 : Int)) = false := rfl
    by_cases hz : s = 0
    · have HN := hid (nextI_zero (i := 0) hs (by rw [highPart_zero s hs, hz]))
      have hzb : ((s : Int) == 0) = true := by simp [hz]
      clear hT hz hlt
      go_enter Tryz.func286, Tryz.ntmps286
      go_wp2_with fail
      go_ret
      exact ⟨ret_int HN.out.symm, (Ext.refl w).alloc _⟩
    · have hzb : ((s : Int) == 0) = false := by rw [beq_eq_false_iff_ne]; omega
      have HN := hid (nextI_ctz (i := 0) hs (by rw [highPart_zero s hs]; exact hz))
      clear hT hlt
      go_enter Tryz.func286, Tryz.ntmps286
      go_wp2_with (go_at_call 299; refine (tz64_any s hs hz _ (HT.out.ext ((Ext.refl w).alloc _))).mono ?_; rintro r w' ⟨rfl, rfl⟩)
      go_ret
      exact ⟨ret_int (by rw [HN.out, highPart_zero s hs]), (Ext.refl w).alloc _⟩
  · have h1 : (0 : Int) < i := by omega
    have HM := hid (andNot_low s i hs (by omega))
    have h0' : 0 < i := by omega
    by_cases hz : highPart s i = 0
    · have HN := hid (nextI_zero hs hz)
      have HZ := hid hz
      clear hT hz hlt
      go_enter Tryz.func286, Tryz.ntmps286
      go_wp2_with fail
      go_region_held3 (fun w' => w'.cell? ⟨w.heap.size, 0, none⟩ = some (.int .u64 s)) (first | go_keep | exact ((Ext.cells hE).1 _ _ (by simp)).trans (by simp))
        (first | (go_at_call 298; refine (below_any s i _ h0').mono ?_; rintro r w1 ⟨rfl, hE⟩))
      rw [HM.out, HZ.out]
      have HE := hid hE
      clear hE
      go_wp2_with fail
      go_ret
      exact ⟨ret_int HN.out.symm, HE.out.of_drew.of_alloc⟩
    · have HN := hid (nextI_ctz hs hz)
      have hzb : ((highPart s i : Int) == 0) = false := by rw [beq_eq_false_iff_ne]; omega
      obtain ⟨y, hy⟩ : ∃ y, highPart s i = y := ⟨_, rfl⟩
      rw [hy] at hlt hz hzb
      have HY := hid hy
      clear hT hy
      go_enter Tryz.func286, Tryz.ntmps286
      go_wp2_with fail
      go_region_held3 (fun w' => w'.cell? ⟨w.heap.size, 0, none⟩ = some (.int .u64 s)) (first | go_keep | exact ((Ext.cells hE).1 _ _ (by simp)).trans (by simp))
        (first | (go_at_call 298; refine (below_any s i _ h0').mono ?_; rintro r w1 ⟨rfl, hE⟩))
      rw [HM.out, HY.out]
      have HE := hid hE.of_drew.of_alloc
      clear hE
      go_wp2_with (go_at_call 299; refine (tz64_any y hlt hz _ (HT.out.ext HE.out)).mono ?_; rintro r w' ⟨rfl, rfl⟩)
      go_ret
      exact ⟨ret_int (by rw [HN.out, HY.out]), HE.out⟩
end Go.Proofs.YtnippamifihdpaaGreatDoor
namespace Go.Proofs.YtnippamifihdpaaGreatDoor
open Go Go.RowKit
attribute [local go_sem] Oper.semAt_some

theorem Ext.grown {w w' : World} (h : Ext w w') : w.grownBy w' none := ⟨h.os, h.tape, h.output, h.size, fun k hk _ => h.block k hk id⟩

/-- A place that is in the word. -/
abbrev BitOf (s : Nat) : Type := { i : Nat // i < 64 ∧ s.testBit i = true }

/-- What a round of a range over a set keeps: the set's own block and the table. -/
def SetKeeps (B : Nat) (A C : World) : Prop := ∀ b, b = B ∨ b = 6 → ∀ o, A.heap[b]? = some o → o.isCells = true → C.heap[b]? = some o
theorem SetKeeps.trans {B : Nat} {A C E : World} (h : SetKeeps B A C) (k : SetKeeps B C E) : SetKeeps B A E := fun b hb o ho hc => k b hb o (h b hb o ho hc) hc
theorem SetKeeps.refl (B : Nat) (A : World) : SetKeeps B A A := fun _ _ _ h _ => h
theorem SetKeeps.cell {B : Nat} {A C : World} (h : SetKeeps B A C) {b o : Nat} (hb : b = B ∨ b = 6) {v : Value} (hv : A.cell? ⟨b, o, none⟩ = some v) : C.cell? ⟨b, o, none⟩ = some v := by
  unfold World.cell? at *
  dsimp only at *
  cases hq : A.heap[b]? with
  | none => rw [hq] at hv; cases hv
  | some ob =>
    rw [hq] at hv
    cases ob with
    | cells c t f =>
      rw [h b hb _ hq rfl]
      exact hv
    | _ => cases hv
theorem SetKeeps.tab {B : Nat} {A C : World} (h : SetKeeps B A C) (ht : Tab A) : Tab C := fun j hj => h.cell (.inr rfl) (ht j hj)
theorem SetKeeps.fr {S : Nat → Prop} {B : Nat} {A C : World} (h : Fr S A C) (h1 : ¬ S B) (h2 : ¬ S 6) : SetKeeps B A C := by
  rintro b (rfl | rfl) o ho _
  · exact h.obj ho h1
  · exact h.obj ho h2
theorem SetKeeps.put (B : Nat) (W : World) (l : Nat) (o o' : Obj) (hl : W.heap[l]? = some o) (ho : o.isCells = false) : SetKeeps B W (W.putObj l o') := by
  intro b _ x hx hc
  have hne : b ≠ l := by
    rintro rfl
    rw [hl] at hx
    injection hx with hx
    subst hx
    rw [ho] at hc; cases hc
  exact (World.putObj_heap_other hne).trans hx

def setMeasure : Value → Nat | .int _ q => if q < 0 then 0 else (65 - q).toNat | _ => 0

theorem setMeasure_int (q : Int) : setMeasure (.int .i64 q) = if q < 0 then 0 else (65 - q).toNat := rfl
theorem next_measure (s j j1 : Nat) (h : j + 1 = j1) (hj : j < 64) : setMeasure (.int .i64 (nextI s j1)) < setMeasure (.int .i64 (j : Int)) := by
  rw [setMeasure_int, setMeasure_int, if_neg (show ¬ (j : Int) < 0 by omega)]
  cases hb : bitsFrom s j1 with
  | nil =>
    have : nextI s j1 = -1 := by unfold nextI; rw [hb]
    rw [this, if_pos (by omega)]
    omega
  | cons j2 t =>
    have : nextI s j1 = (j2 : Int) := by unfold nextI; rw [hb]
    obtain ⟨h1, h2, _⟩ := bitsFrom_cons (64 - j1) j1 (by omega) hb
    rw [this, if_neg (by omega)]
    omega

/-- Between two rounds of All. -/
def AllRel (s B : Nat) (J : List (BitOf s) → World → Prop) (i : Value) (wr : World) : Prop :=
  ∃ (k : Nat) (pre : List (BitOf s)), k ≤ 64 ∧ i = .int .i64 (nextI s k) ∧ pre.map (·.1) ++ bitsFrom s k = bitsOf s ∧ J pre wr ∧ wr.cell? ⟨B, 0, none⟩ = some (.int .u64 s) ∧ Tab wr

set_option maxRecDepth 100000 in
set_option maxHeartbeats 8000000 in
theorem all_stops (n s B : Nat) (w : World) (hs : s < 18446744073709551616) (hn : 2 ≤ n) (hB : w.cell? ⟨B, 0, none⟩ = some (.int .u64 s)) (hT : Tab w) :
    SeqStopsK Fence.wide n Tryz.prog 285 #[ptr B] (fun x : BitOf s => #[.int .i64 x.1]) (SetKeeps B) (fun xs => xs.map (·.1) = bitsOf s) (fun _ => True) (bitsOf s).length w := by
  intro l J Jx W hW hJ hJx hY h0
  have hBl := World.block_lt_of_cell? w _ hB
  have hB' : W.cell? ⟨B, 0, none⟩ = some (.int .u64 s) := (hW.cell (p := ⟨B, 0, none⟩) hBl).trans hB
  have hTl : 6 < w.heap.size := World.block_lt_of_cell? w ⟨6, 0, none⟩ (hT 0 (by decide))
  have hT' : Tab W := fun j hj => (hW.cell (p := ⟨6, j, none⟩) hTl).trans (hT j hj)
  have HT := hid hT'
  have HY := hid hY
  have HJ := hid hJ
  have H0 := hid h0
  have _hfn : Fence.wide.fn 286 := trivial
  have _h1n : 1 ≤ n := by omega
  have _h2n : 1 ≤ n - 1 := by omega
  clear hT hT' hY hJ hJx h0 hB hW
  refine callsIn_of_wp Tryz.func285 rfl trivial ?_ rfl
  simp only [Tryz.ntmps285, List.size_toArray, List.length_cons, List.length_nil, Nat.reduceAdd, Nat.reduceSub, Array.replicate_succ, Array.replicate_zero, List.push_toArray, List.append_toArray, List.nil_append, List.cons_append]
  gi_wp2_with (gi_at_call 286; refine (callsIn_wide.2 (next_any s 0 W hs HT.out)).mono ?_; rintro e w1 ⟨rfl, hE⟩)
  obtain ⟨hc1, _hf1⟩ := hE.cells
  have hB1 : w1.cell? ⟨B, 0, none⟩ = some (.int .u64 s) := (hc1 B 0 (World.block_lt_of_cell? W _ hB')).trans hB'
  have HS : Hid (AllRel s B J (.int .i64 (nextI s 0)) w1) := hid ⟨0, [], by omega, rfl, rfl, HJ.out _ _ _ _ H0.out hE.grown (fun _ h => by cases h), hB1, HT.out.ext hE⟩
  clear hE hc1 _hf1 hB1 hB'
  gi_loopw [3] (fun i wr => AllRel s B J i wr) (fun i _ => setMeasure i)
  case atStart => exact HS.out
  case round =>
    clear HS
    obtain ⟨k, pre, hk, rfl, hpre, hJ1, hB1, hT1⟩ := hrel
    have HT1 := hid hT1
    have HP := hid hpre
    have HJ1 := hid hJ1
    clear hT1 hpre hJ1
    cases hb : bitsFrom s k with
    | nil =>
      have hv : nextI s k = -1 := by unfold nextI; rw [hb]
      have HB := hid hb
      rw [hv]
      clear hb hv
      gi_wp2
      go_end0
      exact ⟨⟨_, rfl⟩, .inl ⟨pre, by have := HP.out; rw [HB.out] at this; simpa using this, HJ1.out⟩⟩
    | cons j t =>
      have hv : nextI s k = (j : Int) := by unfold nextI; rw [hb]
      obtain ⟨hkj, hj, hbit, ht⟩ := bitsFrom_cons (64 - k) k (by omega) hb
      have hlen : pre.length < (bitsOf s).length := by have := congrArg List.length HP.out; rw [hb] at this; simp at this; omega
      obtain ⟨fn, tmps, assign, body, hy, hR⟩ := HY.out pre ⟨j, hj, hbit⟩ wr HJ1.out hlen
      dsimp only at hy
      have HB := hid hb
      have HTT := hid ht
      rw [hv]
      clear hb hv ht hlen
      obtain ⟨j1, hj1⟩ : ∃ j1, j + 1 = j1 := ⟨_, rfl⟩
      have e1 : (j : Int) + 1 = (j1 : Int) := by omega
      have hj64 : j1 ≤ 64 := by omega
      have HJJ := hid hj1
      have HK := hid hkj
      clear hj1
      gi_wp2
      refine hR.mono ?_
      rintro e W' (⟨rfl, hJ', hk'⟩ | ⟨rfl, hJx'⟩)
      · have hB2 := hk'.cell (.inl rfl) hB1
        have HT2 := hid (hk'.tab HT1.out)
        have HJ2 := hid hJ'
        clear hJ' hk' hR hy
        gi_wp2_with (gi_at_call 286; refine (callsIn_wide.2 (next_any s j1 W' hs HT2.out)).mono ?_; rintro e w2 ⟨rfl, hE⟩; have HE := hid hE; clear hE)
        go_roundw
        case rel =>
          refine ⟨j1, pre ++ [⟨j, hj, hbit⟩], hj64, rfl, ?_, HJ.out _ _ _ _ HJ2.out HE.out.grown (fun _ h => by cases h), ?_, HT2.out.ext HE.out⟩
          · have := HP.out
            rw [HB.out, HTT.out, HJJ.out] at this
            rw [List.map_append]
            simpa using this
          · exact (HE.out.cells.1 B 0 (World.block_lt_of_cell? W' _ hB2)).trans hB2
        case measure =>
          exact next_measure s j j1 HJJ.out hj
      · have HX := hid hJx'
        clear hJx' hR hy
        gi_wp2
        refine bodyPost_ret (results_none rfl _ _ _) rfl ?_
        exact ⟨⟨_, rfl⟩, .inr ⟨pre ++ [⟨j, hj, hbit⟩], trivial, HX.out⟩⟩
end Go.Proofs.YtnippamifihdpaaGreatDoor
namespace Go.Proofs.YtnippamifihdpaaGreatDoor
open Go Go.RowKit
attribute [local go_sem] Oper.semAt_some

/-- A hierarchy at a block: of each place the word of its juniors. -/
structure RankAt (w : World) (br : Nat) (J : Nat → Nat) : Prop where
  blk : ∃ cs, Blk w br cs 229 ∧ cs.size = 64 ∧ ∀ i, i < 64 → cs[i]? = some (.int .u64 (J i))
  lt : ∀ i, J i < 18446744073709551616
theorem RankAt.cell {w : World} {br : Nat} {J : Nat → Nat} (h : RankAt w br J) {i : Nat} (hi : i < 64) : w.cell? ⟨br, i, none⟩ = some (.int .u64 (J i)) := by
  obtain ⟨cs, hb, _, hc⟩ := h.blk
  exact (hb.cell i).trans (hc i hi)
theorem RankAt.fr {S : Nat → Prop} {w w' : World} {br : Nat} {J : Nat → Nat} (h : RankAt w br J) (k : Fr S w w') (hn : ¬ S br) : RankAt w' br J := by
  obtain ⟨cs, hb, hs, hc⟩ := h.blk
  exact ⟨⟨cs, hb.fr k hn, hs, hc⟩, h.lt⟩
theorem RankAt.below {B : Nat} {w w' : World} {br : Nat} {J : Nat → Nat} (h : RankAt w br J) (k : Below B w w') (hn : br < B) : RankAt w' br J := by
  obtain ⟨cs, hb, hs, hc⟩ := h.blk
  exact ⟨⟨cs, (k.block br hn).trans hb, hs, hc⟩, h.lt⟩
theorem RankAt.blt {w : World} {br : Nat} {J : Nat → Nat} (h : RankAt w br J) : br < w.heap.size := by
  obtain ⟨cs, hb, _⟩ := h.blk
  exact hb.lt

/-- What lies under a place. -/
inductive Reach (J : Nat → Nat) : Nat → Nat → Prop where
  | refl (i : Nat) : Reach J i i
  | step {i a b : Nat} : Reach J i a → (J a).testBit b = true → Reach J i b
/-- A word holds what lies under some place of another. -/
def IsSpread (J : Nat → Nat) (s r : Nat) : Prop := r < 18446744073709551616 ∧ ∀ j, r.testBit j = true ↔ ∃ i, s.testBit i = true ∧ Reach J i j
theorem IsSpread.uniq {J : Nat → Nat} {s r r' : Nat} (h : IsSpread J s r) (h' : IsSpread J s r') : r = r' :=
  Nat.eq_of_testBit_eq fun j => by rw [Bool.eq_iff_iff, h.2 j, h'.2 j]
open Classical in
/-- The word of all that lies under some place of a word. -/
noncomputable def spread (J : Nat → Nat) (s : Nat) : Nat := if h : ∃ r, IsSpread J s r then Classical.choose h else 0
theorem spread_of {J : Nat → Nat} {s r : Nat} (h : IsSpread J s r) : spread J s = r := by
  have hex : ∃ r, IsSpread J s r := ⟨r, h⟩
  unfold spread
  rw [dif_pos hex]
  exact (Classical.choose_spec hex).uniq h

/-- The words of some places, joined. -/
def joinJ (J : Nat → Nat) (l : List Nat) : Nat := l.foldl (fun n a => n ||| J a) 0
theorem joinJ_snoc (J : Nat → Nat) (l : List Nat) (a : Nat) : joinJ J (l ++ [a]) = joinJ J l ||| J a := by simp [joinJ]
theorem foldl_or_lt (J : Nat → Nat) (hJ : ∀ i, J i < 18446744073709551616) (l : List Nat) : ∀ n, n < 18446744073709551616 → l.foldl (fun n a => n ||| J a) n < 18446744073709551616 := by
  induction l with
  | nil => intro n hn; exact hn
  | cons a l ih =>
    intro n hn
    refine ih _ ?_
    have := Nat.or_lt_two_pow (n := 64) hn (hJ a)
    exact this
theorem joinJ_lt (J : Nat → Nat) (hJ : ∀ i, J i < 18446744073709551616) (l : List Nat) : joinJ J l < 18446744073709551616 := foldl_or_lt J hJ l 0 (by omega)
theorem foldl_or_bit (J : Nat → Nat) (l : List Nat) (b : Nat) : ∀ n, (l.foldl (fun n a => n ||| J a) n).testBit b = true ↔ n.testBit b = true ∨ ∃ a, a ∈ l ∧ (J a).testBit b = true := by
  induction l with
  | nil => intro n; simp
  | cons a l ih =>
    intro n
    rw [List.foldl_cons, ih, Nat.testBit_or, Bool.or_eq_true]
    simp [or_assoc]
theorem joinJ_bit (J : Nat → Nat) (l : List Nat) (b : Nat) : (joinJ J l).testBit b = true ↔ ∃ a, a ∈ l ∧ (J a).testBit b = true := by
  unfold joinJ
  rw [foldl_or_bit]
  simp
theorem mem_bitsOf {s j : Nat} (hs : s < 18446744073709551616) : j ∈ bitsOf s ↔ s.testBit j = true := by
  unfold bitsOf
  rw [mem_bitsFrom]
  constructor
  · exact fun h => h.2.2
  · intro h
    refine ⟨by omega, ?_, h⟩
    rcases Nat.lt_or_ge j 64 with h1 | h1
    · exact h1
    · have : s < 2 ^ j := Nat.lt_of_lt_of_le (show s < 2 ^ 64 from hs) (Nat.pow_le_pow_right (by omega) h1)
      rw [Nat.testBit_lt_two_pow this] at h
      cases h

/-- Between two rounds of Spread: s is what has been found, f what has been found last. -/
structure SpreadInv (J : Nat → Nat) (s0 s f : Nat) : Prop where
  lt : s < 18446744073709551616
  flt : f < 18446744073709551616
  from_ : ∀ j, s0.testBit j = true → s.testBit j = true
  to : ∀ j, s.testBit j = true → ∃ i, s0.testBit i = true ∧ Reach J i j
  fin : ∀ j, f.testBit j = true → s.testBit j = true
  old : ∀ a b, s.testBit a = true → f.testBit a = false → (J a).testBit b = true → s.testBit b = true
theorem SpreadInv.start (J : Nat → Nat) {s : Nat} (hs : s < 18446744073709551616) : SpreadInv J s s s :=
  ⟨hs, hs, fun _ h => h, fun j h => ⟨j, h, .refl j⟩, fun _ h => h, fun a b h1 h2 => by rw [h1] at h2; cases h2⟩
theorem SpreadInv.done {J : Nat → Nat} {s0 s : Nat} (h : SpreadInv J s0 s 0) : spread J s0 = s := by
  refine spread_of ⟨h.lt, fun j => ⟨h.to j, ?_⟩⟩
  rintro ⟨i, hi, hr⟩
  induction hr with
  | refl => exact h.from_ i hi
  | step _ hb ih => exact h.old _ _ ih (by simp) hb
theorem testBit_minus (n s j : Nat) (hn : n < 18446744073709551616) (_hs : s < 18446744073709551616) : (n &&& (18446744073709551615 - s)).testBit j = (n.testBit j && !s.testBit j) := by
  rw [Nat.testBit_and, show 18446744073709551615 - s = 2 ^ 64 - (s + 1) from by omega, Nat.testBit_two_pow_sub_succ (by omega)]
  by_cases hj : j < 64
  · simp [hj]
  · have : n.testBit j = false := Nat.testBit_lt_two_pow (Nat.lt_of_lt_of_le (show n < 2 ^ 64 from hn) (Nat.pow_le_pow_right (by omega) (by omega)))
    simp [this]
theorem SpreadInv.step {J : Nat → Nat} {s0 s f : Nat} (h : SpreadInv J s0 s f) (hJ : ∀ i, J i < 18446744073709551616) :
    SpreadInv J s0 (s ||| joinJ J (bitsOf f)) (joinJ J (bitsOf f) &&& (18446744073709551615 - s)) := by
  have hj := joinJ_lt J hJ (bitsOf f)
  refine ⟨Nat.or_lt_two_pow (n := 64) h.lt hj, Nat.lt_of_le_of_lt Nat.and_le_left hj, fun j hs => ?_, fun j hs => ?_, fun j hs => ?_, fun a b ha hf hb => ?_⟩
  · rw [Nat.testBit_or, h.from_ j hs]; rfl
  · rw [Nat.testBit_or, Bool.or_eq_true, joinJ_bit] at hs
    rcases hs with hs | ⟨a, ha, hb⟩
    · exact h.to j hs
    · obtain ⟨i, hi, hr⟩ := h.to a (h.fin a ((mem_bitsOf h.flt).1 ha))
      exact ⟨i, hi, hr.step hb⟩
  · rw [testBit_minus _ _ _ hj h.lt, Bool.and_eq_true] at hs
    rw [Nat.testBit_or, hs.1, Bool.or_true]
  · rw [Nat.testBit_or, Bool.or_eq_true] at ha ⊢
    rw [testBit_minus _ _ _ hj h.lt] at hf
    by_cases hsa : s.testBit a = true
    · by_cases hfa : f.testBit a = true
      · right
        rw [joinJ_bit]
        exact ⟨a, (mem_bitsOf h.flt).2 hfa, hb⟩
      · left
        exact h.old a b hsa (by simpa using hfa) hb
    · have : s.testBit a = false := by simpa using hsa
      rw [this] at hf
      simp at hf
      rcases ha with ha | ha
      · exact (hsa ha).elim
      · rw [hf] at ha; cases ha

/-- How many places are not found; and whether the last round found some. -/
def spreadLeft (s f : Nat) : Nat := 2 * (64 - (bitsOf s).length) + (if f = 0 then 0 else 1)
theorem bits_grow {s t : Nat} (h : ∀ j, s.testBit j = true → t.testBit j = true) (_hs : s < 18446744073709551616) (ht : t < 18446744073709551616) :
    (bitsOf s).length ≤ (bitsOf t).length ∧ ((∃ j, t.testBit j = true ∧ s.testBit j = false) → (bitsOf s).length < (bitsOf t).length) := by
  have e : ∀ u, bitsOf u = (List.range' 0 64).filter fun j => u.testBit j := fun u => rfl
  have h1 : bitsOf s = (bitsOf t).filter fun j => s.testBit j := by
    rw [e, e, List.filter_filter]
    refine List.filter_congr fun j _ => ?_
    cases hq : s.testBit j
    · simp
    · simp [h j hq]
  constructor
  · rw [h1]; exact List.length_filter_le _ _
  · rintro ⟨j, hj, hn⟩
    rw [h1]
    refine Nat.lt_of_le_of_ne (List.length_filter_le _ _) fun hq => ?_
    have h2 := List.length_filter_eq_length_iff.1 hq j ((mem_bitsOf ht).2 hj)
    rw [hn] at h2
    cases h2
theorem bits_le (s : Nat) : (bitsOf s).length ≤ 64 := by
  unfold bitsOf bitsFrom
  exact Nat.le_trans (List.length_filter_le _ _) (by simp)
theorem exists_bit {x : Nat} (h : x ≠ 0) : ∃ j, x.testBit j = true := by
  rcases Classical.em (∃ j, x.testBit j = true) with h1 | h1
  · exact h1
  · exfalso
    apply h
    refine Nat.eq_of_testBit_eq fun j => ?_
    cases hq : x.testBit j
    · simp
    · exact (h1 ⟨j, hq⟩).elim
theorem spreadLeft_lt {J : Nat → Nat} {s0 s f : Nat} (h : SpreadInv J s0 s f) (hJ : ∀ i, J i < 18446744073709551616) (hf : f ≠ 0) :
    spreadLeft (s ||| joinJ J (bitsOf f)) (joinJ J (bitsOf f) &&& (18446744073709551615 - s)) < spreadLeft s f := by
  have h2 := h.step hJ
  have hj := joinJ_lt J hJ (bitsOf f)
  have hg := bits_grow (s := s) (t := s ||| joinJ J (bitsOf f)) (fun j hs => by rw [Nat.testBit_or, hs]; rfl) h.lt h2.lt
  have hl := bits_le (s ||| joinJ J (bitsOf f))
  unfold spreadLeft
  rw [if_neg hf]
  by_cases hz : joinJ J (bitsOf f) &&& (18446744073709551615 - s) = 0
  · rw [if_pos hz]
    have := hg.1
    omega
  · rw [if_neg hz]
    obtain ⟨j, hb⟩ := exists_bit hz
    rw [testBit_minus _ _ _ hj h.lt, Bool.and_eq_true] at hb
    have := hg.2 ⟨j, by rw [Nat.testBit_or, hb.1, Bool.or_true], by simpa using hb.2⟩
    omega
end Go.Proofs.YtnippamifihdpaaGreatDoor
namespace Go.Proofs.YtnippamifihdpaaGreatDoor
open Go Go.RowKit

theorem spread_fin {J : Nat → Nat} (hJ : ∀ i, J i < 18446744073709551616) {s0 : Nat} (n : Nat) : ∀ s f, spreadLeft s f ≤ n → SpreadInv J s0 s f → ∃ s', SpreadInv J s0 s' 0 := by
  induction n with
  | zero =>
    intro s f hn hi
    by_cases hf : f = 0
    · subst hf; exact ⟨s, hi⟩
    · exfalso
      unfold spreadLeft at hn
      rw [if_neg hf] at hn
      omega
  | succ n ih =>
    intro s f hn hi
    by_cases hf : f = 0
    · subst hf; exact ⟨s, hi⟩
    · have := spreadLeft_lt hi hJ hf
      exact ih _ _ (by omega) (hi.step hJ)
theorem spread_is {J : Nat → Nat} (hJ : ∀ i, J i < 18446744073709551616) {s : Nat} (hs : s < 18446744073709551616) : IsSpread J s (spread J s) := by
  obtain ⟨s', hi⟩ := spread_fin hJ (s0 := s) _ s s (Nat.le_refl _) (SpreadInv.start J hs)
  rw [hi.done]
  refine ⟨hi.lt, fun j => ⟨hi.to j, ?_⟩⟩
  rintro ⟨i, hb, hr⟩
  induction hr with
  | refl => exact hi.from_ i hb
  | step _ hb2 ih => exact hi.old _ _ ih (by simp) hb2
theorem spread_self {J : Nat → Nat} (hJ : ∀ i, J i < 18446744073709551616) {s : Nat} (hs : s < 18446744073709551616) {j : Nat} (h : s.testBit j = true) : (spread J s).testBit j = true :=
  ((spread_is hJ hs).2 j).2 ⟨j, h, .refl j⟩
end Go.Proofs.YtnippamifihdpaaGreatDoor
