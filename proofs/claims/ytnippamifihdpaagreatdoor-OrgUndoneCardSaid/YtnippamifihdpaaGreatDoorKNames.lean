/- lex.Legal: names. Sets of names: add, drop. Sets of names: all. Registers: what they hold. -/
import Derived.Test.YtnippamifihdpaaGreatDoorKBase
import Derived.Handy
import Derived.LoopTactic
import Derived.MapKept
import Derived.Sort.KeysCollected
import Derived.Maps.Range
import Derived.Test.YtnippamifihdpaaGreatDoorKAg2
namespace Go.Proofs.YtnippamifihdpaaGreatDoor
open Go Go.RowKit

def smallB (c : Nat) : Bool := decide (97 ≤ c) && decide (c ≤ 122)
def digitB (c : Nat) : Bool := decide (48 ≤ c) && decide (c ≤ 57)
def inNameB (c : Nat) : Bool := smallB c || digitB c || decide (c = 45)
/-- Is it a name? -/
def legalB (s : ByteArray) : Bool :=
  decide (s.size ≤ 24) && (s.data.toList.all fun c => inNameB c.toNat) && (match s.data.toList with | [] => false | c :: _ => smallB c.toNat)

theorem small_any (c : Nat) (w : World) : Calls Tryz.prog 201 #[.int .u8 c] w fun e w' => e = .returned (.bool (smallB c)) ∧ w = w' := by
  unfold smallB
  by_cases h1 : 97 ≤ c
  · have h2 : decide ((97 : Int) ≤ (c : Int)) = true := by simp; omega
    go_enter Tryz.func201, Tryz.ntmps201
    go_wp2
    go_ret
    exact ⟨ret_bool (by rw [decide_eq_true h1, Bool.true_and, decide_eq_decide]; omega), rfl⟩
  · have h2 : decide ((97 : Int) ≤ (c : Int)) = false := by simp; omega
    go_enter Tryz.func201, Tryz.ntmps201
    go_wp2
    go_ret
    exact ⟨ret_bool (by rw [decide_eq_false h1, Bool.false_and]), rfl⟩
theorem digit_any (c : Nat) (w : World) : Calls Tryz.prog 203 #[.int .u8 c] w fun e w' => e = .returned (.bool (digitB c)) ∧ w = w' := by
  unfold digitB
  by_cases h1 : 48 ≤ c
  · have h2 : decide ((48 : Int) ≤ (c : Int)) = true := by simp; omega
    go_enter Tryz.func203, Tryz.ntmps203
    go_wp2
    go_ret
    exact ⟨ret_bool (by rw [decide_eq_true h1, Bool.true_and, decide_eq_decide]; omega), rfl⟩
  · have h2 : decide ((48 : Int) ≤ (c : Int)) = false := by simp; omega
    go_enter Tryz.func203, Tryz.ntmps203
    go_wp2
    go_ret
    exact ⟨ret_bool (by rw [decide_eq_false h1, Bool.false_and]), rfl⟩
theorem inName_any (c : Nat) (w : World) : Calls Tryz.prog 202 #[.int .u8 c] w fun e w' => e = .returned (.bool (inNameB c)) ∧ w = w' := by
  have H : inNameB c = (smallB c || digitB c || decide (c = 45)) := rfl
  cases h1 : smallB c
  · cases h2 : digitB c
    · rw [h1, h2] at H
      have HH := hid H
      have H1 := hid h1
      have H2 := hid h2
      clear H h1 h2
      go_enter Tryz.func202, Tryz.ntmps202
      go_wp2_with (first | (go_at_call 201; refine (small_any c _).mono ?_; rintro r w1 ⟨rfl, rfl⟩; rw [H1.out]) | (go_at_call 203; refine (digit_any c _).mono ?_; rintro r w1 ⟨rfl, rfl⟩; rw [H2.out]))
      go_ret
      exact ⟨ret_bool (by
        rw [HH.out]
        have hc : ((c : Int) == 45) = decide (c = 45) := by
          by_cases hq : c = 45
          · subst hq; rfl
          · rw [decide_eq_false hq, beq_eq_false_iff_ne]; omega
        exact hc), rfl⟩
    · rw [h1, h2] at H
      have HH := hid H
      have H1 := hid h1
      have H2 := hid h2
      clear H h1 h2
      go_enter Tryz.func202, Tryz.ntmps202
      go_wp2_with (first | (go_at_call 201; refine (small_any c _).mono ?_; rintro r w1 ⟨rfl, rfl⟩; rw [H1.out]) | (go_at_call 203; refine (digit_any c _).mono ?_; rintro r w1 ⟨rfl, rfl⟩; rw [H2.out]))
      go_ret
      exact ⟨ret_bool (by rw [HH.out]; rfl), rfl⟩
  · rw [h1] at H
    have HH := hid H
    have H1 := hid h1
    clear H h1
    go_enter Tryz.func202, Tryz.ntmps202
    go_wp2_with (first | (go_at_call 201; refine (small_any c _).mono ?_; rintro r w1 ⟨rfl, rfl⟩; rw [H1.out]))
    go_ret
    exact ⟨ret_bool (by rw [HH.out]; rfl), rfl⟩

/-- So many bytes at the head are a name's, and no more. -/
def NameHead (s : ByteArray) (i : Nat) : Prop := i ≤ s.size ∧ (∀ j, j < i → ∀ h : j < s.size, inNameB (s[j]'h).toNat = true) ∧ (∀ h : i < s.size, inNameB (s[i]'h).toNat = false)
def BeginRel (s : ByteArray) (w : World) (k : Value) (wr : World) : Prop := ∃ i : Nat, k = .int .i64 i ∧ i ≤ s.size ∧ (∀ j, j < i → ∀ h : j < s.size, inNameB (s[j]'h).toNat = true) ∧ w = wr
def beginMu (s : ByteArray) : Value → Nat | .int _ q => (s.size - q).toNat | _ => 0
theorem begin_mu {s : ByteArray} {i i1 : Nat} (h : i + 1 = i1) (h2 : i < s.size) : beginMu s (.int .i64 (i1 : Int)) < beginMu s (.int .i64 (i : Int)) := by
  show ((s.size : Int) - (i1 : Int)).toNat < ((s.size : Int) - (i : Int)).toNat
  omega
theorem begin_rel {s : ByteArray} {w : World} {i i1 : Nat} (h : i + 1 = i1) (h2 : i < s.size) (hall : ∀ j, j < i → ∀ h : j < s.size, inNameB (s[j]'h).toNat = true) (hi : inNameB (s[i]'h2).toNat = true) : BeginRel s w (.int .i64 (i1 : Int)) w := by
  subst h
  refine ⟨i + 1, rfl, by omega, fun j hj hs => ?_, rfl⟩
  rcases Nat.lt_or_ge j i with h1 | h1
  · exact hall j h1 hs
  · have : j = i := by omega
    subst this
    exact hi

set_option maxHeartbeats 1000000 in
theorem begins_any (s : ByteArray) (w : World) (hsz : s.size < 4000000000000000000) : Calls Tryz.prog 198 #[.string s, .func (.func 202) #[] #[]] w fun e w' => (∃ i : Nat, e = .returned (.int .i64 i) ∧ NameHead s i) ∧ w = w' := by
  have H0 : Hid (BeginRel s w (.int .i64 ((0 : Nat) : Int)) w) := hid ⟨0, rfl, by omega, fun j hj => by omega, rfl⟩
  go_enter Tryz.func198, Tryz.ntmps198
  go_wp2_with fail
  go_loopw [5] (fun k wr => BeginRel s w k wr) (fun k _ => beginMu s k)
  case atStart => exact H0.out
  case round =>
    clear H0
    obtain ⟨i, rfl, hi, hall, rfl⟩ := hrel
    have HA := hid hall
    clear hall
    by_cases h2 : i < s.size
    · have h1 : decide ((i : Int) < (s.size : Int)) = true := by simp; omega
      obtain ⟨i1, hi1⟩ : ∃ i1, i + 1 = i1 := ⟨_, rfl⟩
      have e1 : (i : Int) + 1 = (i1 : Int) := by omega
      have HI := hid hi1
      clear hi1
      cases hin : inNameB (s[i]'h2).toNat
      · have HN := hid hin
        clear hin
        go_wp2_with (go_at_call 202; refine (inName_any _ _).mono ?_; rintro r w1 ⟨rfl, rfl⟩; rw [HN.out])
        go_ret
        exact ⟨⟨i, rfl, hi, HA.out, fun _ => HN.out⟩, rfl⟩
      · have HN := hid hin
        clear hin
        go_wp2_with (go_at_call 202; refine (inName_any _ _).mono ?_; rintro r w1 ⟨rfl, rfl⟩; rw [HN.out])
        go_roundw
        case rel => exact begin_rel HI.out h2 HA.out HN.out
        case measure => exact begin_mu HI.out h2
    · have h1 : decide ((i : Int) < (s.size : Int)) = false := by simp; omega
      go_wp2_with fail
      go_ret
      exact ⟨⟨i, rfl, hi, HA.out, fun h => (h2 h).elim⟩, rfl⟩

theorem legal_iff (s : ByteArray) (i : Nat) (h : NameHead s i) : legalB s = (decide (s.size ≤ 24) && decide (i = s.size) && (match s.data.toList with | [] => false | c :: _ => smallB c.toNat)) := by
  unfold legalB
  have : (s.data.toList.all fun c => inNameB c.toNat) = decide (i = s.size) := by
    rw [Bool.eq_iff_iff, List.all_eq_true, decide_eq_true_eq]
    constructor
    · intro hall
      rcases Nat.lt_or_ge i s.size with h1 | h1
      · have := h.2.2 h1
        rw [hall (s[i]'h1) (by
          have : s[i]'h1 = s.data[i]'h1 := rfl
          rw [this]
          exact Array.mem_toList_iff.2 (Array.getElem_mem _))] at this
        cases this
      · exact Nat.le_antisymm h.1 h1
    · intro hi c hc
      obtain ⟨j, hj, rfl⟩ := Array.mem_iff_getElem.1 (Array.mem_toList_iff.1 hc)
      exact h.2.1 j (by rw [hi]; exact hj) hj
  rw [this]

theorem NameHead.uniq {s : ByteArray} {i j : Nat} (h : NameHead s i) (k : NameHead s j) : i = j := by
  rcases Nat.lt_trichotomy i j with h1 | h1 | h1
  · have h2 : i < s.size := Nat.lt_of_lt_of_le h1 k.1
    have h3 := h.2.2 h2
    rw [k.2.1 i h1 h2] at h3
    cases h3
  · exact h1
  · have h2 : j < s.size := Nat.lt_of_lt_of_le h1 h.1
    have h3 := k.2.2 h2
    rw [h.2.1 j h1 h2] at h3
    cases h3
theorem nameHead_ex (s : ByteArray) : ∃ i, NameHead s i := by
  have key : ∀ m, (∀ j, j < s.size - m → ∀ h : j < s.size, inNameB (s[j]'h).toNat = true) → m ≤ s.size → ∃ i, NameHead s i := by
    intro m
    induction m with
    | zero => intro h _; exact ⟨s.size, Nat.le_refl _, fun j hj hs => h j (by omega) hs, fun h => by omega⟩
    | succ m ih =>
      intro h hm
      have hlt : s.size - (m + 1) < s.size := by omega
      cases hq : inNameB (s[s.size - (m + 1)]'hlt).toNat
      · exact ⟨s.size - (m + 1), by omega, h, fun _ => hq⟩
      · refine ih (fun j hj hs => ?_) (by omega)
        rcases Nat.lt_or_ge j (s.size - (m + 1)) with h1 | h1
        · exact h j h1 hs
        · have : j = s.size - (m + 1) := by omega
          subst this
          exact hq
  exact key s.size (fun j hj => by omega) (Nat.le_refl _)
theorem begins_at (s : ByteArray) (i : Nat) (w : World) (hsz : s.size < 4000000000000000000) (hi : NameHead s i) : Calls Tryz.prog 198 #[.string s, .func (.func 202) #[] #[]] w fun e w' => e = .returned (.int .i64 i) ∧ w = w' :=
  (begins_any s w hsz).mono fun e w' ⟨⟨j, h1, h2⟩, h3⟩ => ⟨by rw [h1, h2.uniq hi], h3⟩
theorem size_list (s : ByteArray) : s.data.toList.length = s.size := rfl

set_option maxHeartbeats 1000000 in
theorem legal_empty (w : World) : Calls Tryz.prog 152 #[.string ⟨#[]⟩] w fun e w' => e = .returned (.bool false) ∧ w = w' := by
  have hcall := begins_at ⟨#[]⟩ 0 w (by decide) ⟨by decide, fun j hj => by omega, fun h => by cases h⟩
  go_enter Tryz.func152, Tryz.ntmps152
  go_wp2_with (go_at_call 198; refine hcall.mono ?_; rintro r w1 ⟨rfl, rfl⟩)
  go_ret
  exact ⟨rfl, rfl⟩
theorem toList_data (s : ByteArray) : s.toList = s.data.toList := by
  have key : ∀ n i (r : List UInt8), s.size - i = n → ByteArray.toList.loop s i r = r.reverse ++ s.data.toList.drop i := by
    intro n
    induction n with
    | zero =>
      intro i r h
      unfold ByteArray.toList.loop
      rw [if_neg (by omega), List.drop_of_length_le (by rw [size_list]; omega), List.append_nil]
    | succ n ih =>
      intro i r h
      unfold ByteArray.toList.loop
      have hi : i < s.size := by omega
      rw [if_pos hi, ih (i + 1) _ (by omega), List.drop_eq_getElem_cons (i := i) (by rw [size_list]; exact hi)]
      simp only [List.reverse_cons, List.append_assoc, List.singleton_append]
      congr 2
      show s.get! i = _
      obtain ⟨d⟩ := s
      show d[i]! = _
      rw [getElem!_pos d i hi]
      rfl
  exact (key _ 0 [] rfl).trans (by simp)

set_option maxHeartbeats 1000000 in
theorem legal_any (s : ByteArray) (w : World) : Calls Tryz.prog 152 #[.string s] w fun e w' => e = .returned (.bool (legalB s)) ∧ w = w' := by
  by_cases h0 : s.size = 0
  · have hl : s.data.toList = [] := List.eq_nil_of_length_eq_zero h0
    have hs : s = ⟨#[]⟩ := by
      obtain ⟨⟨d⟩⟩ := s
      cases hl
      rfl
    subst hs
    exact legal_empty w
  by_cases h24 : s.size ≤ 24
  · have h1 : decide ((s.size : Int) ≤ 24) = true := by simp; omega
    obtain ⟨i, hi⟩ := nameHead_ex s
    have hcall := begins_at s i w (by omega) hi
    have H := legal_iff s i hi
    rw [decide_eq_true h24, Bool.true_and] at H
    by_cases hi2 : i = s.size
    · rw [decide_eq_true hi2, Bool.true_and] at H
      have he : ((i : Int) == (s.size : Int)) = true := by rw [hi2]; simp
      obtain ⟨c, l, hl⟩ : ∃ c l, s.data.toList = c :: l := by
        cases hq : s.data.toList with
        | nil => rw [← size_list, hq] at h0; exact (h0 rfl).elim
        | cons c l => exact ⟨c, l, rfl⟩
      have hp : 0 < s.size := by omega
      have h00 : (s[0]'hp) = c := by
        have : s.data[0]'hp = c := by rw [← Array.getElem_toList]; simp [hl]
        exact this
      have he0 : s.toList.isEmpty = false := by
        rw [toList_data, hl]
        rfl
      rw [hl] at H
      have H : legalB s = smallB (s[0]'hp).toNat := by rw [H, h00]
      have HH := hid H
      clear H hi hl h00
      go_enter Tryz.func152, Tryz.ntmps152
      go_wp2_with (first | (go_at_call 198; refine hcall.mono ?_; rintro r w1 ⟨rfl, rfl⟩) | (go_at_call 201; refine (small_any _ _).mono ?_; rintro r w1 ⟨rfl, rfl⟩))
      go_ret
      exact ⟨ret_bool HH.out.symm, rfl⟩
    · rw [decide_eq_false hi2, Bool.false_and] at H
      have HH := hid H
      have he : ((i : Int) == (s.size : Int)) = false := by rw [beq_eq_false_iff_ne]; omega
      clear H hi hi2 h24
      go_enter Tryz.func152, Tryz.ntmps152
      go_wp2_with (go_at_call 198; refine hcall.mono ?_; rintro r w1 ⟨rfl, rfl⟩)
      go_ret
      exact ⟨ret_bool HH.out.symm, rfl⟩
  · have h1 : decide ((s.size : Int) ≤ 24) = false := by simp; omega
    have H : legalB s = false := by unfold legalB; rw [decide_eq_false h24]; rfl
    go_enter Tryz.func152, Tryz.ntmps152
    go_wp2_with fail
    go_ret
    exact ⟨ret_bool H.symm, rfl⟩
end Go.Proofs.YtnippamifihdpaaGreatDoor
namespace Go.Proofs.YtnippamifihdpaaGreatDoor
open Go Go.RowKit

instance : LawfulBEq ByteArray where
  eq_of_beq := fun {a b} h => (bytes_beq_iff a b).1 h
  rfl := fun {a} => (bytes_beq_iff a a).2 rfl

theorem undNames : Tryz.prog.underlying 106 = some (.map 9 140) := by kernel_rfl
theorem undStr : Tryz.prog.underlying 9 = some .string := by kernel_rfl
theorem zeroUnit (w : World) : (zeroValue 140).run Tryz.prog w = .ok (.agg #[]) w := by kernel_rfl

/-- The entries of a map by key and value. -/
def pairsOf (es : Array MapEntry) : List (Value × Value) := es.toList.map fun e => (e.key, e.val)
/-- A set of names at a block. -/
def SetAt (w : World) (m : Nat) (l : List ByteArray) : Prop :=
  ∃ es clock, w.heap[m]? = some (.map es clock) ∧ pairsOf es = l.map (fun s => (Value.string s, Value.agg #[])) ∧ l.Nodup ∧ Go.MapKept.Stamped es clock ∧ ∀ s ∈ l, s.size ≤ 24
theorem SetAt.fr {S : Nat → Prop} {w w' : World} {m : Nat} {l : List ByteArray} (h : SetAt w m l) (k : Fr S w w') (hn : ¬ S m) : SetAt w' m l := by
  obtain ⟨es, clock, hm, r⟩ := h
  exact ⟨es, clock, k.obj hm hn, r⟩
theorem SetAt.lt {w : World} {m : Nat} {l : List ByteArray} (h : SetAt w m l) : m < w.heap.size := by
  obtain ⟨es, clock, hm, r⟩ := h
  exact (Array.getElem?_eq_some_iff.1 hm).1

theorem pairs_plain {es : Array MapEntry} {l : List ByteArray} {f : ByteArray → Value} (h : pairsOf es = l.map (fun s => (Value.string s, f s))) : ∀ e ∈ es.toList, PlainKey .string e.key := by
  intro e he
  have : (e.key, e.val) ∈ pairsOf es := List.mem_map.2 ⟨e, he, rfl⟩
  rw [h] at this
  obtain ⟨s, _, hs⟩ := List.mem_map.1 this
  rw [show e.key = .string s from (congrArg Prod.fst hs).symm]
  exact .str s
/-- A name is found just where it stands in the list. -/
theorem find_names {es : Array MapEntry} {l : List ByteArray} {f : ByteArray → Value} (h : pairsOf es = l.map (fun s => (Value.string s, f s))) (name : ByteArray) :
    (∃ (j : Nat) (e : MapEntry), Instr.findNow .string (.string name) es.toList 0 = some (some (j, e.val)) ∧ l[j]? = some name ∧ e.val = f name) ∨
    (Instr.findNow .string (.string name) es.toList 0 = some none ∧ name ∉ l) := by
  have key : ∀ j : Nat, (es.toList[j]?).map (fun e => (e.key, e.val)) = (l[j]?).map (fun s => (Value.string s, f s)) := fun j => by
    rw [← List.getElem?_map, ← List.getElem?_map]
    exact congrArg (·[j]?) h
  rcases findNow_plain (PlainKey.str name) es.toList 0 (pairs_plain h) with ⟨h1, h2⟩ | ⟨j, e, h1, h2, h3⟩
  · refine .inr ⟨h1, fun hn => ?_⟩
    obtain ⟨j, hj⟩ := List.getElem?_of_mem hn
    have := key j
    rw [hj] at this
    cases hq : es.toList[j]? with
    | none => rw [hq] at this; cases this
    | some e =>
      rw [hq] at this
      have h4 : (e.key, e.val) = (Value.string name, f name) := by simpa using this
      exact h2 e (List.mem_of_getElem? hq) (congrArg Prod.fst h4)
  · refine .inl ⟨j, e, by simpa using h1, ?_⟩
    have := key j
    rw [h2] at this
    cases hq : l[j]? with
    | none => rw [hq] at this; cases this
    | some s =>
      rw [hq] at this
      have h4 : (e.key, e.val) = (Value.string s, f s) := by simpa using this
      have h5 : Value.string s = .string name := (congrArg Prod.fst h4).symm.trans h3
      injection h5 with h5
      subst h5
      exact ⟨rfl, congrArg Prod.snd h4⟩

/-- What putting a name in answers, and what the set is then. -/
def addSet (l : List ByteArray) (name : ByteArray) : Nat × List ByteArray := if legalB name = false then (4, l) else if name ∈ l then (5, l) else (0, l ++ [name])
def dropSet (l : List ByteArray) (name : ByteArray) : Nat × List ByteArray := if name ∈ l then (0, l.erase name) else (26, l)

set_option maxRecDepth 100000 in
set_option maxHeartbeats 2000000 in
theorem add_hit (w : World) (m : Nat) (l : List ByteArray) (name : ByteArray) (h : SetAt w m l) (hleg : legalB name = true) (hn : name ∉ l) :
    Calls Tryz.prog 63 #[.map (some m), .string name, .int .i64 0] w fun e w' => e = .returned (.int .i64 0) ∧ SetAt w' m (l ++ [name]) ∧ Fr (fun k => k = m) w w' := by
  obtain ⟨es, clock, hm, hp, hl, hst, h24⟩ := h
  rcases find_names (f := fun _ => Value.agg #[]) hp name with ⟨j, e, hf, hj, hv⟩ | ⟨hf, _⟩
  · exact (hn (List.mem_of_getElem? hj)).elim
  have hlk := run_lookup_miss undNames undStr zeroUnit w hm (.str name) hf
  have hm2 : (w.alloc (.cells #[] 140)).heap[m]? = some (.map es clock) := Ext.obj ((Ext.refl w).alloc _) hm
  have hup := run_mapUpdate_new (v := .agg #[]) undNames undStr _ hm2 (.str name) hf
  have hkeys : ∀ x ∈ es.toList, x.key ≠ .string name := by
    rcases findNow_plain (PlainKey.str name) es.toList 0 (pairs_plain hp) with ⟨_, h2⟩ | ⟨j, e, h1, _⟩
    · exact h2
    · rw [hf] at h1; cases h1
  have HST := hid (Go.MapKept.stamped_push (val := .agg #[]) hst hkeys)
  have H24 := hid h24
  have hsz : name.size ≤ 24 := by
    unfold legalB at hleg
    simp only [Bool.and_eq_true, decide_eq_true_eq] at hleg
    exact hleg.1.1
  have HSZ := hid hsz
  clear hst h24 hkeys hsz
  have HP := hid hp
  have HL := hid hl
  have HM := hid hm
  have HN := hid hn
  clear hp hl hm hn hf
  go_enter Tryz.func63, Tryz.ntmps63
  go_wp2_with (go_at_call 152; refine (legal_any name _).mono ?_; rintro r w1 ⟨rfl, rfl⟩; rw [hleg])
  go_ret
  have F : Fr (fun k => k = m) w (setMap (w.alloc (.cells #[] 140)) m (es.push { key := .string name, val := .agg #[], born := clock }) (clock + 1)) := ((Fr.refl (fun k => k = m) w).alloc _).setMap (.inl rfl) _ _
  refine ⟨rfl, ⟨_, _, setMap_at hm2, ?_, ?_, HST.out, ?_⟩, F⟩
  · simp only [pairsOf, Array.toList_push, List.map_append, List.map_cons, List.map_nil]
    rw [show es.toList.map (fun e => (e.key, e.val)) = _ from HP.out]
  · rw [List.nodup_append]
    refine ⟨HL.out, by simp, ?_⟩
    intro a ha b hb hq
    simp at hb
    subst hb hq
    exact HN.out ha
  · intro s hs
    rcases List.mem_append.1 hs with hs | hs
    · exact H24.out s hs
    · simp at hs
      subst hs
      exact HSZ.out

set_option maxRecDepth 100000 in
set_option maxHeartbeats 2000000 in
theorem add_twice (w : World) (m : Nat) (l : List ByteArray) (name : ByteArray) (h : SetAt w m l) (hleg : legalB name = true) (hn : name ∈ l) :
    Calls Tryz.prog 63 #[.map (some m), .string name, .int .i64 0] w fun e w' => e = .returned (.int .i64 5) ∧ Ext w w' := by
  obtain ⟨es, clock, hm, hp, hl, hst, h24⟩ := h
  rcases find_names (f := fun _ => Value.agg #[]) hp name with ⟨j, e, hf, hj, hv⟩ | ⟨hf, hno⟩
  · have hlk := run_lookup_hit undNames undStr w hm (.str name) j e hf
    rw [hv] at hlk
    clear hp hl hn hf hj hv
    go_enter Tryz.func63, Tryz.ntmps63
    go_wp2_with (go_at_call 152; refine (legal_any name _).mono ?_; rintro r w1 ⟨rfl, rfl⟩; rw [hleg])
    go_ret
    exact ⟨rfl, (Fr.refl _ w).alloc _⟩
  · exact (hno hn).elim
set_option maxRecDepth 100000 in
set_option maxHeartbeats 2000000 in
theorem add_bad (w : World) (m : Nat) (l : List ByteArray) (name : ByteArray) (h : SetAt w m l) (hleg : legalB name = false) :
    Calls Tryz.prog 63 #[.map (some m), .string name, .int .i64 0] w fun e w' => e = .returned (.int .i64 4) ∧ Ext w w' := by
  obtain ⟨es, clock, hm, hp, hl, hst, h24⟩ := h
  have hz : ∃ x y, (Instr.lookup 106 (.map (some m)) (.string name) true).run Tryz.prog w = .ok (.tuple #[x, .bool y]) w ∧ x = .agg #[] := by
    rcases find_names (f := fun _ => Value.agg #[]) hp name with ⟨j, e, hf, hj, hv⟩ | ⟨hf, hno⟩
    · exact ⟨_, _, run_lookup_hit undNames undStr w hm (.str name) j e hf, hv⟩
    · exact ⟨_, _, run_lookup_miss undNames undStr zeroUnit w hm (.str name) hf, rfl⟩
  obtain ⟨x, y, hlk, rfl⟩ := hz
  clear hp hl hm
  go_enter Tryz.func63, Tryz.ntmps63
  go_wp2_with (go_at_call 152; refine (legal_any name _).mono ?_; rintro r w1 ⟨rfl, rfl⟩; rw [hleg])
  go_ret
  exact ⟨rfl, (Fr.refl _ w).alloc _⟩
theorem add_any (w : World) (m : Nat) (l : List ByteArray) (name : ByteArray) (h : SetAt w m l) :
    Calls Tryz.prog 63 #[.map (some m), .string name, .int .i64 0] w fun e w' => e = .returned (.int .i64 (addSet l name).1) ∧ SetAt w' m (addSet l name).2 ∧ Fr (fun k => k = m) w w' := by
  unfold addSet
  cases hleg : legalB name
  · exact (add_bad w m l name h hleg).mono fun e w' k => ⟨k.1, h.fr k.2 id, k.2.mono fun _ _ => False.elim⟩
  · by_cases hn : name ∈ l
    · rw [if_neg (by simp), if_pos hn]
      exact (add_twice w m l name h hleg hn).mono fun e w' k => ⟨k.1, h.fr k.2 id, k.2.mono fun _ _ => False.elim⟩
    · rw [if_neg (by simp), if_neg hn]
      exact add_hit w m l name h hleg hn

/-- A look-up in no map. -/
theorem run_lookup_nil {P : Program} {T K E : TypeId} {kd : TypeDesc} {k z : Value} (hT : P.underlying T = some (.map K E)) (hK : P.underlying K = some kd) (hz : ∀ w, (zeroValue E).run P w = .ok z w) (w : World) (hk : PlainKey kd k) :
    (Instr.lookup T (.map none) k true).run P w = .ok (.tuple #[z, .bool false]) w := by
  simp [Instr.lookup, run_underlying hT, run_checkKey_plain hK hk, run_findKey_plain hK [] none rfl w, hz]
set_option maxRecDepth 100000 in
set_option maxHeartbeats 2000000 in
theorem add_none (w : World) (name : ByteArray) (c : Nat) (hc : c ≠ 0) :
    Calls Tryz.prog 63 #[.map none, .string name, .int .i64 c] w fun e w' => e = .returned (.int .i64 c) ∧ Ext w w' := by
  have hlk := run_lookup_nil undNames undStr zeroUnit w (.str name)
  have h1 : ((c : Int) != 0) = true := by simpa using hc
  go_enter Tryz.func63, Tryz.ntmps63
  go_wp2_with fail
  go_ret
  exact ⟨rfl, (Fr.refl _ w).alloc _⟩
set_option maxRecDepth 100000 in
set_option maxHeartbeats 2000000 in
theorem drop_none (w : World) (name : ByteArray) (c : Nat) (hc : c ≠ 0) :
    Calls Tryz.prog 171 #[.map none, .string name, .int .i64 c] w fun e w' => e = .returned (.int .i64 c) ∧ Ext w w' := by
  have hlk := run_lookup_nil undNames undStr zeroUnit w (.str name)
  have h1 : ((c : Int) != 0) = true := by simpa using hc
  go_enter Tryz.func171, Tryz.ntmps171
  go_wp2_with fail
  go_ret
  exact ⟨rfl, (Fr.refl _ w).alloc _⟩
set_option maxRecDepth 100000 in
set_option maxHeartbeats 2000000 in
theorem drop_miss (w : World) (m : Nat) (l : List ByteArray) (name : ByteArray) (h : SetAt w m l) (hn : name ∉ l) :
    Calls Tryz.prog 171 #[.map (some m), .string name, .int .i64 0] w fun e w' => e = .returned (.int .i64 26) ∧ Ext w w' := by
  obtain ⟨es, clock, hm, hp, hl, hst, h24⟩ := h
  rcases find_names (f := fun _ => Value.agg #[]) hp name with ⟨j, e, hf, hj, hv⟩ | ⟨hf, hno⟩
  · exact (hn (List.mem_of_getElem? hj)).elim
  · have hlk := run_lookup_miss undNames undStr zeroUnit w hm (.str name) hf
    clear hp hl hn hf
    go_enter Tryz.func171, Tryz.ntmps171
    go_wp2_with fail
    go_ret
    exact ⟨rfl, (Fr.refl _ w).alloc _⟩
theorem eraseIdx_map' {α β : Type} (f : α → β) : ∀ (l : List α) (j : Nat), (l.map f).eraseIdx j = (l.eraseIdx j).map f
  | [], j => by simp
  | a :: l, 0 => by simp
  | a :: l, j + 1 => by simp [eraseIdx_map' f l j]
theorem erase_at {l : List ByteArray} {name : ByteArray} : ∀ {j : Nat}, l.Nodup → l[j]? = some name → l.eraseIdx j = l.erase name := by
  induction l with
  | nil => intro j _ hj; simp at hj
  | cons a l ih =>
    intro j hl hj
    cases j with
    | zero =>
      have : a = name := by simpa using hj
      subst this
      simp
    | succ j =>
      have hj2 : l[j]? = some name := by simpa using hj
      have hne : a ≠ name := by
        rintro rfl
        exact (List.nodup_cons.1 hl).1 (List.mem_of_getElem? hj2)
      rw [List.eraseIdx_cons_succ, ih (List.nodup_cons.1 hl).2 hj2, List.erase_cons_tail (by simpa using hne)]
set_option maxRecDepth 100000 in
set_option maxHeartbeats 2000000 in
theorem drop_hit (w : World) (m : Nat) (l : List ByteArray) (name : ByteArray) (h : SetAt w m l) (hn : name ∈ l) :
    Calls Tryz.prog 171 #[.map (some m), .string name, .int .i64 0] w fun e w' => e = .returned (.int .i64 0) ∧ SetAt w' m (l.erase name) ∧ Fr (fun k => k = m) w w' := by
  obtain ⟨es, clock, hm, hp, hl, hst, h24⟩ := h
  rcases find_names (f := fun _ => Value.agg #[]) hp name with ⟨j, e, hf, hj, hv⟩ | ⟨hf, hno⟩
  · have hlk := run_lookup_hit undNames undStr w hm (.str name) j e hf
    rw [hv] at hlk
    have hm2 : (w.alloc (.cells #[] 140)).heap[m]? = some (.map es clock) := Ext.obj ((Ext.refl w).alloc _) hm
    have hdel := fun ty => run_delete_hit (ty := ty) (K2 := 9) undNames undStr _ hm2 (.str name) hf
    have HST := hid (Go.MapKept.stamped_erase hst j)
    have H24 := hid h24
    clear hst h24
    have HP := hid hp
    have HL := hid hl
    have HM := hid hm
    have HJ := hid hj
    clear hp hl hm hn hf hj hv
    go_enter Tryz.func171, Tryz.ntmps171
    go_wp2_with fail
    go_ret
    have F : Fr (fun k => k = m) w (setMap (w.alloc (.cells #[] 140)) m (es.eraseIdxIfInBounds j) clock) := ((Fr.refl (fun k => k = m) w).alloc _).setMap (.inl rfl) _ _
    refine ⟨rfl, ⟨_, _, setMap_at hm2, ?_, ?_, HST.out, fun s hs => H24.out s (List.mem_of_mem_erase hs)⟩, F⟩
    · have hes : (es.eraseIdxIfInBounds j).toList = es.toList.eraseIdx j := by
        rw [Array.toList_eraseIdxIfInBounds]
      have hp2 : es.toList.map (fun e => (e.key, e.val)) = l.map (fun s => (Value.string s, Value.agg #[])) := HP.out
      unfold pairsOf
      rw [hes, ← eraseIdx_map', hp2, eraseIdx_map', erase_at HL.out HJ.out]
    · exact HL.out.erase _
  · exact (hno hn).elim
theorem drop_any (w : World) (m : Nat) (l : List ByteArray) (name : ByteArray) (h : SetAt w m l) :
    Calls Tryz.prog 171 #[.map (some m), .string name, .int .i64 0] w fun e w' => e = .returned (.int .i64 (dropSet l name).1) ∧ SetAt w' m (dropSet l name).2 ∧ Fr (fun k => k = m) w w' := by
  unfold dropSet
  by_cases hn : name ∈ l
  · rw [if_pos hn]
    exact drop_hit w m l name h hn
  · rw [if_neg hn]
    exact (drop_miss w m l name h hn).mono fun e w' k => ⟨k.1, h.fr k.2 id, k.2.mono fun _ _ => False.elim⟩
end Go.Proofs.YtnippamifihdpaaGreatDoor
namespace Go.Proofs.YtnippamifihdpaaGreatDoor
open Go Go.RowKit Go.Maps Go.WideElems

/-- Any value reads. -/
def anyR : Value → Option (DataW Unit × List MemPlace) := fun _ => some (.lit (.bool true), [])
theorem rd_str (e : MapEntry) (s : ByteArray) (hk : e.key = .string s) (hs : s.size ≤ 24) : rd Tryz.prog 9 anyR e = some (.string s.data.toList, .lit (.bool true)) := by
  have : keyOf Tryz.prog 9 e.key = some (.string s.data.toList) := by
    rw [hk]
    have : s.size ≤ maxLen := by unfold maxLen; omega
    simp [keyOf, mapKey, this]
  unfold rd
  rw [this]
  rfl
/-- A key's bytes. -/
def keyBytes : Value → List UInt8 | .string s => s.data.toList | _ => []
set_option maxRecDepth 100000 in
theorem SetAt.ownsMap {w : World} {m : Nat} {l : List ByteArray} (h : SetAt w m l) (hl : l.length ≤ 1000000) :
    ∃ D0 : DataW Unit, w.ownsMap Tryz.prog 9 anyR m l.length D0 ∧ (strKeys D0).Perm (l.map fun s => s.data.toList) ∧ Maps.size D0 = l.length := by
  obtain ⟨es, clock, hm, hp, hnd, hst, h24⟩ := h
  have hlen : es.toList.length = l.length := by
    have := congrArg List.length hp
    simpa [pairsOf] using this
  have hkey : ∀ e ∈ es.toList, ∃ s ∈ l, e.key = .string s := by
    intro e he
    have : (e.key, e.val) ∈ pairsOf es := List.mem_map.2 ⟨e, he, rfl⟩
    rw [hp] at this
    obtain ⟨s, hs, hq⟩ := List.mem_map.1 this
    exact ⟨s, hs, (congrArg Prod.fst hq).symm⟩
  have F : Fit Tryz.prog 9 anyR es clock := ⟨by rw [← Array.length_toList, hlen]; unfold maxLen; omega, hst, fun e he => by
    obtain ⟨s, hs, hk⟩ := hkey e he
    exact ⟨_, rd_str e s hk (h24 s hs)⟩⟩
  have hown : w.ownsMap Tryz.prog 9 anyR m l.length (.map ((es.toList.map (rg Tryz.prog 9 anyR)).foldr DataW.insert [])) := ⟨es, clock, hm, F, by rw [← Array.length_toList, hlen]; exact Nat.le_refl _, rfl⟩
  have hperm := Go.WideShapes.sorted_perm (es.toList.map (rg Tryz.prog 9 anyR))
  have hrg : (es.toList.map (rg Tryz.prog 9 anyR)).map (fun p => strOf p.1) = l.map fun s => s.data.toList := by
    have h1 : ∀ e ∈ es.toList, strOf (rg Tryz.prog 9 anyR e).1 = keyBytes e.key := by
      intro e he
      obtain ⟨s, hs, hk⟩ := hkey e he
      rw [rg_of (rd_str e s hk (h24 s hs)), hk]
      rfl
    have h2 : (pairsOf es).map (fun p => keyBytes p.1) = l.map fun s => s.data.toList := by
      rw [hp, List.map_map]
      rfl
    rw [← h2, pairsOf, List.map_map, List.map_map]
    refine List.map_congr_left fun e he => ?_
    show strOf (rg Tryz.prog 9 anyR e).1 = keyBytes e.key
    exact h1 e he
  refine ⟨_, hown, ?_, ?_⟩
  · rw [← hrg]
    exact hperm.map _
  · show ((es.toList.map (rg Tryz.prog 9 anyR)).foldr DataW.insert []).length = l.length
    rw [hperm.length_eq, List.length_map, hlen]
end Go.Proofs.YtnippamifihdpaaGreatDoor
namespace Go.Proofs.YtnippamifihdpaaGreatDoor
open Go Go.RowKit

/-- What of an organisation a block holds. s: is it the roles' side? -/
inductive Part where
  | org | map (s : Bool) | names (s : Bool) | known (s : Bool) | item (s : Bool) (i : Nat) | set (s : Bool) (i : Nat) | rank | loans
  deriving DecidableEq
abbrev Own := Nat → Option Part

/-- A pointer to a block, or nil. -/
def kptr : Option Nat → Value | none => .pointer none | some b => ptr b
/-- A name's number. -/
def numV (names : List ByteArray) (s : ByteArray) : Value := .int .i64 (names.idxOf s : Nat)

structure RegAt (w : World) (own : Own) (s : Bool) (te : TypeId) (mv nv kv : Value) (names : List ByteArray) (kb : List (Option Nat)) : Prop where
  len : kb.length = names.length
  le : names.length ≤ 64
  nodup : names.Nodup
  m : ∃ m es clock, mv = .map (some m) ∧ own m = some (.map s) ∧ w.heap[m]? = some (.map es clock) ∧ pairsOf es = names.map fun n => (Value.string n, numV names n)
  n : w.ownsRow 0 9 1 nv names.length (names.map .string)
  nb : ∀ b, some b = nv.ownBlock → own b = some (.names s)
  k : w.ownsRow 0 te 1 kv kb.length (kb.map kptr)
  kb : ∀ b, some b = kv.ownBlock → own b = some (.known s)

theorem RegAt.fr {S : Nat → Prop} {w w' : World} {own : Own} {s : Bool} {te : TypeId} {mv nv kv : Value} {names : List ByteArray} {kb : List (Option Nat)} (h : RegAt w own s te mv nv kv names kb) (k : Fr S w w')
    (hS : ∀ b t, own b = some t → t = .map s ∨ t = .names s ∨ t = .known s → ¬ S b) : RegAt w' own s te mv nv kv names kb := by
  obtain ⟨m, es, clock, h1, h2, h3, h4⟩ := h.m
  exact ⟨h.len, h.le, h.nodup, ⟨m, es, clock, h1, h2, k.obj h3 (hS m _ h2 (.inl rfl)), h4⟩, ownsRow_fr h.n k fun b hb => hS b _ (h.nb b hb) (.inr (.inl rfl)), h.nb,
    ownsRow_fr h.k k fun b hb => hS b _ (h.kb b hb) (.inr (.inr rfl)), h.kb⟩
theorem RegAt.own_mono {w : World} {own own' : Own} {s : Bool} {te : TypeId} {mv nv kv : Value} {names : List ByteArray} {kb : List (Option Nat)} (h : RegAt w own s te mv nv kv names kb)
    (ho : ∀ b t, own b = some t → own' b = some t) : RegAt w own' s te mv nv kv names kb := by
  obtain ⟨m, es, clock, h1, h2, h3, h4⟩ := h.m
  exact ⟨h.len, h.le, h.nodup, ⟨m, es, clock, h1, ho _ _ h2, h3, h4⟩, h.n, fun b hb => ho _ _ (h.nb b hb), h.k, fun b hb => ho _ _ (h.kb b hb)⟩

/-- An owned row's slice and its cells. -/
theorem row_cell {w : World} {e n : Nat} {v : Value} {xs : List Value} (h : w.ownsRow 0 e 1 v n xs) {i : Nat} {x : Value} (hx : xs[i]? = some x) :
    ∃ g cap, v = .slice (some ⟨g, 0, none⟩) n cap ∧ w.cell? ⟨g, i, none⟩ = some x ∧ w.frozen? ⟨g, i, none⟩ = false ∧ g < w.heap.size := by
  obtain ⟨hl, h2⟩ := h
  rcases h2 with ⟨hv, hn⟩ | ⟨g, cap, cur, hv, hb, hg, hc, hm, hs, ht⟩
  · exfalso
    have : xs = [] := List.eq_nil_of_length_eq_zero (by omega)
    rw [this] at hx
    simp at hx
  · refine ⟨g, cap, hv, ?_, Blk.frozen hg i, (Array.getElem?_eq_some_iff.1 hg).1⟩
    rw [Blk.cell hg i, ← Array.getElem?_toList]
    rw [← ht] at hx
    rw [List.getElem?_take] at hx
    split at hx
    · exact hx
    · cases hx
theorem row_form {w : World} {e n : Nat} {v : Value} {xs : List Value} (h : w.ownsRow 0 e 1 v n xs) : ∃ ad cap, v = .slice ad n cap := by
  obtain ⟨hl, h2⟩ := h
  rcases h2 with ⟨hv, hn⟩ | ⟨g, cap, cur, hv, hb, hg, hc, hm, hs, ht⟩
  · exact ⟨none, 0, by rw [hv, hn]⟩
  · exact ⟨_, _, hv⟩

theorem row_at {w : World} {e n g q : Nat} {xs : List Value} (h : w.ownsRow 0 e 1 (.slice (some ⟨g, 0, none⟩) n q) n xs) {i : Nat} {x : Value} (hx : xs[i]? = some x) :
    w.cell? ⟨g, i, none⟩ = some x ∧ w.frozen? ⟨g, i, none⟩ = false := by
  obtain ⟨g', cap', hkv, cg, fg, hg⟩ := row_cell h hx
  injection hkv with q1 q2 q3
  injection q1 with q1
  injection q1 with q1
  subst q1
  exact ⟨cg, fg⟩

theorem row_block_lt {w : World} {base e size n : Nat} {v : Value} {xs : List Value} (h : w.ownsRow base e size v n xs) {c : Nat} (hc : some c = v.ownBlock) : c < w.heap.size := by
  rcases h.2 with ⟨hv, _⟩ | ⟨g, cap, cur, hv, hb, hg, _⟩
  · subst hv; cases hc
  · subst hv; injection hc with hc; subst hc; exact (Array.getElem?_eq_some_iff.1 hg).1
theorem row_blk {w : World} {e n g q : Nat} {xs : List Value} (h : w.ownsRow 0 e 1 (.slice (some ⟨g, 0, none⟩) n q) n xs) : ∃ cur, Blk w g cur e := by
  rcases h.2 with ⟨hv, _⟩ | ⟨g', cap, cur, hv, hb, hg, _⟩
  · cases hv
  · injection hv with q1
    injection q1 with q1
    injection q1 with q1
    subst q1
    exact ⟨cur, hg⟩
theorem last_at {ks : List Value} {n : Nat} {x : Value} (hl : ks.length = n) : (ks ++ [x])[n]? = some x := by
  subst hl
  simp
theorem new_ne {p g H : Nat} {v : Value} (ha : v.ownBlock = some g ∨ g = H) (h1 : some p ≠ v.ownBlock) (h2 : p < H) : p ≠ g := by
  rintro rfl
  rcases ha with h | h
  · exact h1 h.symm
  · omega

/-- The number and the block of a known name. -/
def regFind (names : List ByteArray) (kb : List (Option Nat)) (name : ByteArray) : Option (Nat × Nat) :=
  if name ∈ names then (kb.getD (names.idxOf name) none).map fun b => (names.idxOf name, b) else none
def getV : Option (Nat × Nat) → Value
  | none => .tuple #[.int .i64 0, .pointer none]
  | some (i, b) => .tuple #[.int .i64 i, ptr b]
theorem idxOf_lt {names : List ByteArray} {name : ByteArray} (h : name ∈ names) : names.idxOf name < names.length := List.idxOf_lt_length_of_mem h

/-- What adding a name answers: its number, the code; and whether the name is new. -/
def regAdd (names : List ByteArray) (kb : List (Option Nat)) (name : ByteArray) : Nat × Nat :=
  if legalB name = false then (0, 4) else if name ∈ names then (match kb.getD (names.idxOf name) none with | some _ => (0, 5) | none => (names.idxOf name, 0))
  else if names.length = 64 then (0, 2) else (names.length, 0)
/-- What a register is behind that. -/
def regNext (names : List ByteArray) (kb : List (Option Nat)) (name : ByteArray) (b : Nat) : List ByteArray × List (Option Nat) :=
  if legalB name = false then (names, kb) else if name ∈ names then (match kb.getD (names.idxOf name) none with | some _ => (names, kb) | none => (names, kb.set (names.idxOf name) (some b)))
  else if names.length = 64 then (names, kb) else (names ++ [name], kb ++ [some b])
/-- A footprint that has grown by new blocks alone. -/
def OwnGrow (w : World) (own own' : Own) : Prop := (∀ c t, own c = some t → own' c = some t) ∧ (∀ c t, own' c = some t → own c = some t ∨ w.heap.size ≤ c)
theorem OwnGrow.refl (w : World) (own : Own) : OwnGrow w own own := ⟨fun _ _ h => h, fun _ _ h => .inl h⟩
theorem OwnGrow.trans {w w1 : World} {own own1 own2 : Own} (h : OwnGrow w own own1) (k : OwnGrow w1 own1 own2) (hw : w.heap.size ≤ w1.heap.size) : OwnGrow w own own2 :=
  ⟨fun c t hc => k.1 c t (h.1 c t hc), fun c t hc => (k.2 c t hc).elim (fun h1 => h.2 c t h1) (fun h1 => .inr (Nat.le_trans hw h1))⟩
/-- A new block given a part. -/
def Own.put (own : Own) (b : Nat) (t : Part) : Own := fun c => if c = b then some t else own c
theorem Own.put_self (own : Own) (b : Nat) (t : Part) : (own.put b t) b = some t := by simp [Own.put]
theorem Own.put_of (own : Own) {b c : Nat} {t t' : Part} (h : own c = some t') (hb : own b = none ∨ own b = some t) : (own.put b t) c = some t' := by
  unfold Own.put
  split
  · rename_i hq
    subst hq
    rcases hb with hb | hb
    · rw [hb] at h; cases h
    · rw [hb] at h; exact h
  · exact h
theorem Own.put_lt {own : Own} {b n : Nat} {t : Part} (h : ∀ c t, own c = some t → c < n) (hb : b < n) : ∀ c t', (own.put b t) c = some t' → c < n := by
  intro c t' hc
  unfold Own.put at hc
  split at hc
  · omega
  · exact h c t' hc
theorem OwnGrow.put {w : World} {own : Own} {b : Nat} {t : Part} (h : own b = some t ∨ (own b = none ∧ w.heap.size ≤ b)) : OwnGrow w own (own.put b t) := by
  refine ⟨fun c t' hc => Own.put_of own hc (h.symm.imp (fun h => h.1) id), fun c t' hc => ?_⟩
  unfold Own.put at hc
  split at hc
  · rename_i hq
    subst hq
    injection hc with hc
    subst hc
    rcases h with h | h
    · exact .inl h
    · exact .inr h.2
  · exact .inl hc

/-- What a register's add leaves. -/
def AddPost (w : World) (own : Own) (s : Bool) (te : TypeId) (p o : Nat) (cs : Array Value) (mv : Value) (names : List ByteArray) (kb : List (Option Nat)) (to : TypeId) (w' : World) : Prop :=
  ∃ own' nv' kv', RegAt w' own' s te mv nv' kv' names kb ∧ Blk w' p ((cs.setIfInBounds (o + 1) nv').setIfInBounds (o + 2) kv') to ∧
    Fr (fun c => c = p ∨ own c = some (.map s) ∨ own c = some (.names s) ∨ own c = some (.known s)) w w' ∧ OwnGrow w own own' ∧ ∀ c t, own' c = some t → c < w'.heap.size
theorem set_same {cs : Array Value} {i : Nat} {v : Value} (h : cs[i]? = some v) : cs.setIfInBounds i v = cs := by
  obtain ⟨hi, rfl⟩ := Array.getElem?_eq_some_iff.1 h
  ext1
  · simp
  · rename_i j h1 h2
    by_cases hj : i = j
    · subst hj; simp
    · rw [Array.getElem_setIfInBounds_ne h2 hj]
theorem AddPost.ext {w w' : World} {own : Own} {s : Bool} {te to : TypeId} {p o : Nat} {cs : Array Value} {mv nv kv : Value} {names : List ByteArray} {kb : List (Option Nat)}
    (h : RegAt w own s te mv nv kv names kb) (hp : Blk w p cs to) (c1 : cs[o + 1]? = some nv) (c2 : cs[o + 2]? = some kv) (hlo : ∀ c t, own c = some t → c < w.heap.size) (k : Ext w w') : AddPost w own s te p o cs mv names kb to w' :=
  ⟨own, nv, kv, h.fr k fun _ _ _ _ => id, by rw [set_same c1, set_same c2]; exact hp.ext k, k.mono fun _ _ => False.elim, OwnGrow.refl _ _, fun c t hc => Nat.lt_of_lt_of_le (hlo c t hc) k.size⟩
theorem idxOf_append_self {names : List ByteArray} {name : ByteArray} (h : name ∉ names) : (names ++ [name]).idxOf name = names.length := by
  rw [List.idxOf_append, if_neg h]
  simp
theorem numV_append {names : List ByteArray} {name n : ByteArray} (h : n ∈ names) : numV (names ++ [name]) n = numV names n := by
  unfold numV
  rw [List.idxOf_append, if_pos h]
end Go.Proofs.YtnippamifihdpaaGreatDoor
