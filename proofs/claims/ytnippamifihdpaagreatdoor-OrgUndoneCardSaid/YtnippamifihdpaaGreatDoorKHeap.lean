/- The plain law of a binary heap in a list of numbers, ordered by what the numbers stand for. -/

namespace Go.Proofs.YtnippamifihdpaaGreatDoor

/-- An entry of an agenda: its id, its time, its turn. -/
structure Ent where
  id : Int
  at_ : Int
  turn : Int
deriving DecidableEq

/-- Comes one entry ahead of another? -/
def Ent.lt (e f : Ent) : Prop := e.at_ < f.at_ ∨ (e.at_ = f.at_ ∧ e.turn < f.turn)
instance (e f : Ent) : Decidable (e.lt f) := by unfold Ent.lt; exact inferInstance

theorem Ent.lt_irrefl (e : Ent) : ¬ e.lt e := by unfold Ent.lt; omega
theorem Ent.lt_trans {e f g : Ent} (h : e.lt f) (k : f.lt g) : e.lt g := by unfold Ent.lt at *; omega
theorem Ent.not_lt_trans {e f g : Ent} (h : ¬ e.lt f) (k : ¬ f.lt g) : ¬ e.lt g := by unfold Ent.lt at *; omega
theorem Ent.lt_asymm {e f : Ent} (h : e.lt f) : ¬ f.lt e := by unfold Ent.lt at *; omega

variable {V : Nat → Ent}

/-- The number at a place. (No abbreviation: the walk leaves it as it is.) -/
def nth (l : List Nat) (k : Nat) : Nat := l.getD k 0

/-- Two places of a row exchanged. -/
def swap (l : List Nat) (i j : Nat) : List Nat := (l.set i (nth l j)).set j (nth l i)

@[simp] theorem length_swap (l : List Nat) (i j : Nat) : (swap l i j).length = l.length := by simp [swap]

theorem getD_set (l : List Nat) (i k v : Nat) : nth (l.set i v) k = if i = k ∧ k < l.length then v else nth l k := by
  unfold nth
  simp only [List.getD_eq_getElem?_getD, List.getElem?_set]
  by_cases h : i = k
  · subst h
    by_cases hl : i < l.length <;> simp [hl]
  · simp [h]

theorem getD_swap (l : List Nat) (i j k : Nat) (hi : i < l.length) (hj : j < l.length) :
    nth (swap l i j) k = if k = j then nth l i else if k = i then nth l j else nth l k := by
  unfold swap
  rw [getD_set, getD_set]
  simp only [List.length_set]
  by_cases h1 : k = j
  · subst h1; simp [hj]
  · have h1' : ¬ j = k := fun e => h1 e.symm
    by_cases h2 : k = i
    · subst h2; simp [h1, h1', hi]
    · have h2' : ¬ i = k := fun e => h2 e.symm
      simp [h1, h1', h2, h2']

theorem swap_perm (l : List Nat) (i j : Nat) (hi : i < l.length) (hj : j < l.length) : (swap l i j).Perm l := by
  unfold swap nth
  rw [List.getD_eq_getElem?_getD, List.getD_eq_getElem?_getD, List.getElem?_eq_getElem hi, List.getElem?_eq_getElem hj]
  simp only [Option.getD_some]
  exact List.set_set_perm hi hj

/-- What stands at a place. -/
abbrev at' (V : Nat → Ent) (l : List Nat) (k : Nat) : Ent := V (nth l k)

/-- A heap of the first n places: none comes ahead of its parent. -/
def IsHeapN (V : Nat → Ent) (l : List Nat) (n : Nat) : Prop := ∀ k, 0 < k → k < n → ¬ (at' V l k).lt (at' V l ((k - 1) / 2))

/-- A heap of the first n places but at j, which may come ahead of its parent; its children keep to its parent. -/
def HeapUp (V : Nat → Ent) (l : List Nat) (n j : Nat) : Prop :=
  (∀ k, 0 < k → k < n → k ≠ j → ¬ (at' V l k).lt (at' V l ((k - 1) / 2))) ∧
  (∀ k, 0 < k → k < n → (k - 1) / 2 = j → 0 < j → ¬ (at' V l k).lt (at' V l ((j - 1) / 2)))

theorem HeapUp.done {l : List Nat} {n j : Nat} (h : HeapUp V l n j) (hd : j = 0 ∨ ¬ (at' V l j).lt (at' V l ((j - 1) / 2))) : IsHeapN V l n := by
  intro k h0 hk
  by_cases e : k = j
  · subst e
    rcases hd with rfl | hd
    · omega
    · exact hd
  · exact h.1 k h0 hk e

theorem HeapUp.step {l : List Nat} {n j : Nat} (h : HeapUp V l n j) (hn : n ≤ l.length) (hj : j < n) (h0 : 0 < j) (hlt : (at' V l j).lt (at' V l ((j - 1) / 2))) :
    HeapUp V (swap l ((j - 1) / 2) j) n ((j - 1) / 2) := by
  have hi : (j - 1) / 2 < l.length := by omega
  have hij : (j - 1) / 2 ≠ j := by omega
  have G := fun k => getD_swap l ((j - 1) / 2) j k hi (by omega)
  constructor
  · intro k k0 hk hne
    unfold at'
    rw [G, G]
    by_cases e1 : k = j
    · subst e1
      simp only [if_true, if_neg hij]
      exact Ent.lt_asymm hlt
    · rw [if_neg e1, if_neg hne]
      by_cases e2 : (k - 1) / 2 = j
      · rw [if_pos e2]
        exact h.2 k k0 hk e2 h0
      · rw [if_neg e2]
        by_cases e3 : (k - 1) / 2 = (j - 1) / 2
        · rw [if_pos e3]
          have := h.1 k k0 hk e1
          rw [show (k - 1) / 2 = (j - 1) / 2 from e3] at this
          unfold at' at this hlt
          intro hc
          unfold Ent.lt at *
          omega
        · rw [if_neg e3]
          exact h.1 k k0 hk e1
  · intro k k0 hk hp hpos
    unfold at'
    rw [G, G]
    have hpp : ((j - 1) / 2 - 1) / 2 ≠ j := by omega
    have hpp2 : ((j - 1) / 2 - 1) / 2 ≠ (j - 1) / 2 := by omega
    rw [if_neg hpp, if_neg hpp2]
    have hup := h.1 ((j - 1) / 2) hpos (by omega) hij
    by_cases e1 : k = j
    · rw [if_pos e1]
      exact hup
    · rw [if_neg e1, if_neg (by omega)]
      have := h.1 k k0 hk e1
      rw [hp] at this
      exact Ent.not_lt_trans this hup

/-- A heap of the first n places but at i, which may come behind its children; they keep to its parent. -/
def HeapDown (V : Nat → Ent) (l : List Nat) (n i : Nat) : Prop :=
  (∀ k, 0 < k → k < n → (k - 1) / 2 ≠ i → ¬ (at' V l k).lt (at' V l ((k - 1) / 2))) ∧
  (∀ k, 0 < k → k < n → (k - 1) / 2 = i → 0 < i → ¬ (at' V l k).lt (at' V l ((i - 1) / 2)))

theorem HeapDown.done {l : List Nat} {n i : Nat} (h : HeapDown V l n i)
    (hd : ∀ k, 0 < k → k < n → (k - 1) / 2 = i → ¬ (at' V l k).lt (at' V l i)) : IsHeapN V l n := by
  intro k h0 hk
  by_cases e : (k - 1) / 2 = i
  · rw [e]; exact hd k h0 hk e
  · exact h.1 k h0 hk e

/-- j: the child of i that comes first. -/
theorem HeapDown.step {l : List Nat} {n i j : Nat} (h : HeapDown V l n i) (hn : n ≤ l.length) (hj : j < n) (hp : (j - 1) / 2 = i) (h0 : 0 < j)
    (hlt : (at' V l j).lt (at' V l i)) (hmin : ∀ k, 0 < k → k < n → (k - 1) / 2 = i → ¬ (at' V l k).lt (at' V l j)) :
    HeapDown V (swap l i j) n j := by
  have hi : i < l.length := by omega
  have hij : i ≠ j := by omega
  have G := fun k => getD_swap l i j k hi (by omega)
  constructor
  · intro k k0 hk hne
    unfold at'
    rw [G, G]
    by_cases e1 : k = j
    · subst e1
      rw [if_pos rfl, if_neg hne, if_pos hp]
      exact Ent.lt_asymm hlt
    · rw [if_neg e1]
      by_cases e2 : k = i
      · subst e2
        rw [if_pos rfl, if_neg hne, if_neg (by omega)]
        exact h.2 j h0 hj hp (by omega)
      · rw [if_neg e2]
        rw [if_neg hne]
        by_cases e3 : (k - 1) / 2 = i
        · rw [if_pos e3]
          exact hmin k k0 hk e3
        · rw [if_neg e3]
          exact h.1 k k0 hk e3
  · intro k k0 hk hkp hj0
    unfold at'
    rw [G, G]
    have : ¬ (j - 1) / 2 = j := by omega
    rw [if_neg (by omega), if_neg (by omega), if_neg this, if_pos hp]
    have := h.1 k k0 hk (by omega)
    rw [hkp] at this
    exact this

/-- None of a heap comes ahead of its first. -/
theorem IsHeapN.first {l : List Nat} {n : Nat} (h : IsHeapN V l n) (k : Nat) (hk : k < n) : ¬ (at' V l k).lt (at' V l 0) := by
  induction k using Nat.strongRecOn with
  | _ k ih =>
    by_cases e : k = 0
    · subst e; exact Ent.lt_irrefl _
    · exact Ent.not_lt_trans (h k (by omega) hk) (ih ((k - 1) / 2) (by omega) (by omega))

/-- A new one behind a heap. -/
theorem IsHeapN.pushed {l : List Nat} {x : Nat} (h : IsHeapN V l l.length) : HeapUp V (l ++ [x]) (l.length + 1) l.length := by
  have G : ∀ k, k < l.length → nth (l ++ [x]) k = nth l k := by
    intro k hk
    unfold nth
    simp [List.getD_eq_getElem?_getD, List.getElem?_append_left hk]
  constructor
  · intro k k0 hk hne
    unfold at'
    rw [G k (by omega), G _ (by omega)]
    exact h k k0 (by omega)
  · intro k k0 hk hp hpos
    omega

theorem getD_moved {l : List Nat} {n i : Nat} (hl : l.length = n + 1) (hi : i < n) :
    (∀ k, k < n → k ≠ i → nth (swap l i n) k = nth l k) ∧ nth (swap l i n) i = nth l n := by
  constructor
  · intro k hk hne
    rw [getD_swap l i n k (by omega) (by omega), if_neg (by omega), if_neg hne]
  · rw [getD_swap l i n i (by omega) (by omega), if_neg (by omega), if_pos rfl]

/-- The last one laid in the place of another: what down is handed. -/
theorem IsHeapN.moved {l : List Nat} {n i : Nat} (h : IsHeapN V l (n + 1)) (hl : l.length = n + 1) (hi : i < n)
    (hx : i = 0 ∨ ¬ (at' V l n).lt (at' V l ((i - 1) / 2))) : HeapDown V (swap l i n) n i := by
  obtain ⟨G, Gi⟩ := getD_moved hl hi
  constructor
  · intro k k0 hk hne
    unfold at'
    rw [G ((k - 1) / 2) (by omega) hne]
    by_cases e : k = i
    · subst e
      rw [Gi]
      rcases hx with rfl | hx
      · omega
      · exact hx
    · rw [G k hk e]
      exact h k k0 (by omega)
  · intro k k0 hk hp hpos
    unfold at'
    rw [G k hk (by omega), G ((i - 1) / 2) (by omega) (by omega)]
    have h1 := h k k0 (by omega)
    have h2 := h i hpos (by omega)
    rw [hp] at h1
    exact Ent.not_lt_trans h1 h2

/-- .. or, where it comes ahead of the parent there, up; down finds nothing to do. -/
theorem IsHeapN.moved_up {l : List Nat} {n i : Nat} (h : IsHeapN V l (n + 1)) (hl : l.length = n + 1) (hi : i < n) (h0 : 0 < i)
    (hx : (at' V l n).lt (at' V l ((i - 1) / 2))) :
    HeapUp V (swap l i n) n i ∧ ∀ k, 0 < k → k < n → (k - 1) / 2 = i → ¬ (at' V (swap l i n) k).lt (at' V (swap l i n) i) := by
  obtain ⟨G, Gi⟩ := getD_moved hl hi
  refine ⟨⟨?_, ?_⟩, ?_⟩
  · intro k k0 hk hne
    unfold at'
    rw [G k hk hne]
    by_cases e : (k - 1) / 2 = i
    · rw [e, Gi]
      have h1 := h k k0 (by omega)
      have h2 := h i h0 (by omega)
      rw [e] at h1
      unfold at' at *
      intro hc
      unfold Ent.lt at *
      omega
    · rw [G _ (by omega) e]
      exact h k k0 (by omega)
  · intro k k0 hk hp hpos
    unfold at'
    rw [G k hk (by omega), G ((i - 1) / 2) (by omega) (by omega)]
    have h1 := h k k0 (by omega)
    have h2 := h i hpos (by omega)
    rw [hp] at h1
    exact Ent.not_lt_trans h1 h2
  · intro k k0 hk hp
    unfold at'
    rw [G k hk (by omega), Gi]
    have h1 := h k k0 (by omega)
    have h2 := h i h0 (by omega)
    rw [hp] at h1
    unfold at' at *
    intro hc
    unfold Ent.lt at *
    omega
theorem nth_mem (l : List Nat) (k : Nat) (h : k < l.length) : nth l k ∈ l := by
  unfold nth
  rw [List.getD_eq_getElem?_getD, List.getElem?_eq_getElem h]
  exact List.getElem_mem h
theorem nth_eq (l : List Nat) (k : Nat) (h : k < l.length) : l[k]? = some (nth l k) := by
  unfold nth
  rw [List.getD_eq_getElem?_getD, List.getElem?_eq_getElem h]
  rfl
theorem nth_of {l : List Nat} {k x : Nat} (h : l[k]? = some x) : nth l k = x := by
  unfold nth
  rw [List.getD_eq_getElem?_getD, h]
  rfl
theorem mem_nth {l : List Nat} {x : Nat} (h : x ∈ l) : ∃ k, k < l.length ∧ nth l k = x := by
  obtain ⟨k, hk, e⟩ := List.mem_iff_getElem.1 h
  exact ⟨k, hk, nth_of (by rw [List.getElem?_eq_getElem hk, e])⟩
theorem nth_inj {l : List Nat} (h : l.Nodup) {i j : Nat} (hi : i < l.length) (hj : j < l.length) (e : nth l i = nth l j) : i = j := by
  have h1 := nth_eq l i hi
  have h2 := nth_eq l j hj
  rw [List.getElem?_eq_getElem hi] at h1
  rw [List.getElem?_eq_getElem hj] at h2
  simp at h1 h2
  exact (List.getElem_inj h).1 (by rw [h1, h2, e])
end Go.Proofs.YtnippamifihdpaaGreatDoor
