/- org: Loans. -/
import Derived.Test.YtnippamifihdpaaGreatDoorKAgAll
import Derived.Test.YtnippamifihdpaaGreatDoorKTailT
import Derived.OwnWalk
import Derived.Deep.AppendLies
import Derived.Test.YtnippamifihdpaaGreatDoorKOrgI
import Derived.Test.YtnippamifihdpaaGreatDoorKLawA
import Derived.RangeFuncBox
namespace Go.Proofs.YtnippamifihdpaaGreatDoor
open Go Go.RowKit Go.Shelf
attribute [local go_sem] Oper.semAt_some

/-- A loan's cells, as it is told. -/
def loanCells (names : List ByteArray) (e : Ent) : List Value := [.string (names.getD (e.id.toNat / 64) ⟨#[]⟩), .string (names.getD (e.id.toNat % 64) ⟨#[]⟩), .int .i64 e.at_]
theorem infoLoan : (Tryz.prog.info? 46).map (fun i => (i.zero, i.size, i.bytes)) = some (some (.agg #[.string ⟨#[]⟩, .string ⟨#[]⟩, .int .i64 0]), 3, 40) := by kernel_rfl
theorem infoLoan_parts : ∃ i, Tryz.prog.info? 46 = some i ∧ i.zero = some (.agg #[.string ⟨#[]⟩, .string ⟨#[]⟩, .int .i64 0]) ∧ i.size = 3 ∧ i.bytes = 40 := by
  have h := infoLoan
  cases hq : Tryz.prog.info? 46 with
  | none => rw [hq] at h; cases h
  | some i => rw [hq] at h; simp at h; exact ⟨i, rfl, h.1, h.2.1, h.2.2⟩

/-- Between two rounds of Loans. -/
def LoansI (w : World) (p : Nat) (names : List ByteArray) {es : List Ent} (pre : List (EntIn es)) (W : World) : Prop :=
  (∃ v, Boxed W (w.heap.size + 1) 42 v ∧ W.ownsRow w.heap.size 46 3 v pre.length (pre.flatMap fun e => loanCells names e.1) ∧ True) ∧ (Boxed W w.heap.size 25 (ptr p) ∧ Below w.heap.size w W)

theorem loansI_own (w : World) (p : Nat) (names : List ByteArray) (es : List Ent) (B : Nat) (hB : w.heap.size ≤ B) : OwnFrom B (fun (pre : List (EntIn es)) W => LoansI w p names pre W) :=
  OwnFrom.and (Own.from (holdsRow_own _ _ _ _ _ (fun pre : List (EntIn es) => pre.length) (fun pre : List (EntIn es) => pre.flatMap fun e => loanCells names e.1) fun _ _ => True) _)
    (OwnFrom.and (Own.from (boxed_own _ _ fun _ => ptr p) _) (ownFrom_below (Nat.le_refl _) hB))

theorem entKeeps_of {W w1 : World} {row : Option Nat} {b : Nat} {u : Value} {tmp : Obj} (h : (W.alloc tmp).grownBy w1 row) (hr : ∀ c cur, some c = row → ¬ Blk W c cur 213) (hb : ∀ cur, ¬ Blk W b cur 213) :
    EntKeeps W (w1.setCell ⟨b, 0, none⟩ u) := by
  intro c cur hc
  have h1 : Blk (W.alloc tmp) c cur 213 := hc.alloc _
  have h2 : Blk w1 c cur 213 := (h.block c h1.lt fun e => hr c cur e hc).trans h1
  refine h2.setCell_other ?_ _
  rintro rfl
  exact hb cur hc

set_option maxRecDepth 100000 in
set_option maxHeartbeats 4000000 in
theorem loans_in (n p pa : Nat) (names : List ByteArray) (ad : Option Addr) (cn : Nat) (es : List Ent) (turns : Nat) (D : Nat → Prop) (w : World) (hn : 5 ≤ n)
    (c1 : w.cell? ⟨p, 1, none⟩ = some (.slice ad names.length cn)) (c9 : w.cell? ⟨p, 9, none⟩ = some (ptr pa))
    (hrow : ∀ k x, names[k]? = some x → ∃ gk, ad = some ⟨gk, 0, none⟩ ∧ ∀ W, Ext w W → W.cell? ⟨gk, k, none⟩ = some (.string x))
    (hA : Ag w pa es turns D) (hlen : es.length ≤ 60000) (h64 : names.length ≤ 64) (hids : ∀ e ∈ es, ∃ f t, e.id = ((f * 64 + t : Nat) : Int) ∧ f < names.length ∧ t < names.length) :
    CallsIn Fence.wide n Tryz.prog 31 #[ptr p] w fun e w' => ∃ l, e = .returned l ∧ Ext w w' ∧ w'.ownsRow w.heap.size 46 3 l es.length (es.flatMap (loanCells names)) := by
  obtain ⟨i0, hi, hz0, hz1, hz2⟩ := infoLoan_parts
  have HR := hid hrow
  have HA := hid hA
  have HI := hid hids
  have HC1 := hid c1
  have lp := World.block_lt_of_cell? w _ c1
  dsimp only at lp
  have _h1n : 1 ≤ n := by omega
  have _h2n : 1 ≤ n - 1 := by omega
  have _f1 : Fence.wide.fn 78 := trivial
  have k9 : ∀ W, Ext w W → W.cell? ⟨p, 9, none⟩ = some (ptr pa) := fun W h => (h.cell (a := ⟨p, 9, none⟩) lp id).trans c9
  have k9' := k9 ((w.alloc (.cells #[ptr p] 25)).alloc (.cells #[.slice none 0 0] 42)) (((Ext.refl w).alloc _).alloc _)
  clear hrow hA hids c1 k9
  refine callsIn_of_wp_marks Tryz.func31 rfl trivial ?_ rfl
  simp only [Tryz.ntmps31, List.size_toArray, List.length_cons, List.length_nil, Nat.reduceAdd, Nat.reduceSub, Array.replicate_succ, Array.replicate_zero, List.push_toArray, List.append_toArray, List.nil_append, List.cons_append]
  gi_wp2_with (gi_at_call 78; refine (callsIn_wide.2 (all_any pa _)).mono ?_; rintro r w3 ⟨rfl, hw3⟩; have HW3 := hid hw3; clear hw3)
  have hb1 : Boxed w3 w.heap.size 25 (ptr p) := by rw [HW3.out]; exact ((Boxed.new w 25 (ptr p)).alloc _).alloc _
  have hb3 : Boxed w3 (w.heap.size + 1) 42 (.slice none 0 0) := by
    rw [HW3.out]
    have := (Boxed.new (w.alloc (.cells #[ptr p] 25)) 42 (.slice none 0 0)).alloc (.cells #[ptr pa] 101)
    simpa using this
  have hX3 : Ext w w3 := by rw [HW3.out]; exact (((Ext.refl w).alloc _).alloc _).alloc _
  have hse : ((w.alloc (.cells #[ptr p] 25)).alloc (.cells #[.slice none 0 0] 42)).heap.size = w.heap.size + 1 + 1 := by simp
  have hb4 : w3.cell? ⟨w.heap.size + 1 + 1, 0, none⟩ = some (ptr pa) := by
    have := Blk.new ((w.alloc (.cells #[ptr p] 25)).alloc (.cells #[.slice none 0 0] 42)) #[ptr pa] 101
    rw [← HW3.out, hse] at this
    rw [this.cell]; rfl
  have hA3 : Ag w3 pa es turns D := HA.out.fr hX3 fun _ _ => id
  have hsz : w.heap.size ≤ w3.heap.size := hX3.size
  have H0 := hid (show LoansI w p names ([] : List (EntIn es)) w3 from ⟨⟨_, hb3, World.ownsRow_nil _ _ _ _, trivial⟩, hb1, hX3.below⟩)
  clear hb1 hb3 hX3
  refine wpIn_rangeFunc_ownF rfl _h1n (gf := 162) (lb := #[ptr (w.heap.size + 1 + 1)]) rfl trivial (enters_of Tryz.func162 (by kernel_rfl) rfl)
    (agAll_stops (n - 1) pa es turns D (w.heap.size + 1 + 1) w3 (by omega) hA3 hlen hb4) (fun h k => h.trans k) (fun W l o o' _ hW ho _ => EntKeeps.put W l o o' hW ho) (Below.refl _ _) (fun _ => rfl)
    (fun pre W => LoansI w p names pre W) (fun _ _ _ => False) (loansI_own w p names es _ hsz) (fun _ _ _ _ _ hs _ _ => hs) H0.out ?a1 ?assign ?body ?done ?stop
  case assign =>
    intro l x W K hK
    gi_wp2
    exact hK
  case body =>
    rintro l pre ⟨e, he⟩ W ⟨⟨v, hv, hr, _⟩, hb1, hBW⟩ hlt
    obtain ⟨f, t, hid', hf, ht⟩ := HI.out e he
    obtain ⟨q, hq⟩ : ∃ q, e.id = q := ⟨_, rfl⟩
    obtain ⟨x1, hx1⟩ : ∃ x, names[f]? = some x := ⟨names[f], List.getElem?_eq_getElem hf⟩
    obtain ⟨x2, hx2⟩ : ∃ x, names[t]? = some x := ⟨names[t], List.getElem?_eq_getElem ht⟩
    obtain ⟨gk, rfl, k1⟩ := HR.out f x1 hx1
    obtain ⟨gk', hgk, k2⟩ := HR.out t x2 hx2
    injection hgk with hgk
    injection hgk with hgk
    subst hgk
    have hXW : Ext w W := Ext.of_below hBW
    have hnb : Ext w W.drew := hXW.drew
    obtain ⟨wd, hwd⟩ : ∃ wd, W.drew = wd := ⟨_, rfl⟩
    have d3 : wd.cell? ⟨w.heap.size + 1, 0, none⟩ = some v := by rw [← hwd]; exact hv.cell
    have d1 : wd.cell? ⟨w.heap.size, 0, none⟩ = some (ptr p) := by rw [← hwd]; exact hb1.cell
    have dn : wd.cell? ⟨p, 1, none⟩ = some (.slice (some ⟨gk, 0, none⟩) names.length cn) := by rw [← hwd]; exact (hnb.cell (a := ⟨p, 1, none⟩) lp id).trans HC1.out
    have e1 : wd.cell? ⟨gk, f, none⟩ = some (.string x1) := by rw [← hwd]; exact k1 _ hnb
    have e2 : wd.cell? ⟨gk, t, none⟩ = some (.string x2) := by rw [← hwd]; exact k2 _ hnb
    have q1 : q.tdiv 64 = (f : Int) := by rw [← hq, hid', Int.tdiv_eq_ediv_of_nonneg (by omega)]; omega
    have q2 : q.tmod 64 = (t : Int) := by rw [← hq, hid', Int.tmod_eq_emod_of_nonneg (by omega)]; omega
    have q1' : q / 64 = (f : Int) := by omega
    have q2' : q % 64 = (t : Int) := by omega
    have wf : IntKind.i64.wrap (f : Int) = f := by simp [IntKind.wrap, IntKind.bits, IntKind.signed]; omega
    have wt : IntKind.i64.wrap (t : Int) = t := by simp [IntKind.wrap, IntKind.bits, IntKind.signed]; omega
    have hf0 : (0 : Int) ≤ f := by omega
    have ht0 : (0 : Int) ≤ t := by omega
    have hf1 : (f : Int) < names.length := by omega
    have ht1 : (t : Int) < names.length := by omega
    have hcells : loanCells names e = [.string x1, .string x2, .int .i64 e.at_] := by
      have n1 : e.id.toNat / 64 = f := by omega
      have n2 : e.id.toNat % 64 = t := by omega
      unfold loanCells
      rw [n1, n2, List.getD_eq_getElem?_getD, List.getD_eq_getElem?_getD, hx1, hx2]
      rfl
    have HV := hid hv
    have HRR := hid hr
    have HB1 := hid hb1
    have HBW := hid hBW
    have HCE := hid hcells
    have HWD := hid hwd
    have HLT := hid hlt
    dsimp only
    rw [hq]
    clear hXW hnb hx1 hx2 k1 k2 hid' hv hr hb1 hBW hcells hf ht hq hlt
    refine wpIn_block ?_
    obtain ⟨S, hS⟩ : ∃ S : World → Prop, S = fun w' => w'.cell? ⟨w.heap.size + 1, 0, none⟩ = some v ∧ w'.cell? ⟨w.heap.size, 0, none⟩ = some (ptr p) ∧ w'.cell? ⟨p, 1, none⟩ = some (.slice (some ⟨gk, 0, none⟩) names.length cn) ∧ w'.cell? ⟨gk, f, none⟩ = some (.string x1) ∧ w'.cell? ⟨gk, t, none⟩ = some (.string x2) := ⟨_, rfl⟩
    have hSd : S wd := by rw [hS]; exact ⟨d3, d1, dn, e1, e2⟩
    have hSa : ∀ o, S (wd.alloc o) := fun o => by
      have hx : ∀ b k u, wd.cell? ⟨b, k, none⟩ = some u → (wd.alloc o).cell? ⟨b, k, none⟩ = some u := fun b k u hu => ((Fr.cell ((Ext.refl wd).alloc o) (a := ⟨b, k, none⟩) (World.block_lt_of_cell? wd _ hu) id).trans hu)
      rw [hS]; exact ⟨hx _ _ _ d3, hx _ _ _ d1, hx _ _ _ dn, hx _ _ _ e1, hx _ _ _ e2⟩
    have HSA := hid hSa
    clear hSa d3 d1 dn e1 e2
    refine wpIn_region_held (S := S) 21 (by kernel_rfl) (by kernel_rfl) (by rintro ⟨a, w, h⟩; exact h) (fun c a a' w h => h) (by kernel_rfl) (by kernel_rfl) (by kernel_rfl) (by decide) (by kernel_rfl) (by rw [HWD.out]; exact hSd) ?_
    change wpHeld _ _ _ (fun a' => wpOp _ _ _ _ (fun a'' w'' => S w'' ∧ wpList _ _ _ _ a'' w'') a' W.drew) _ _
    rw [HWD.out]
    simp only [List.take_succ_cons, List.take_zero, List.drop_succ_cons, List.drop_zero]
    subst hS
    iterate 21
      refine wpHeld_cons (v := ?_) (Or.inl ⟨by rfl, fun w' hSw => ?_⟩) ?_
      rotate_left
      focus ((try dsimp only at hSw); go_simp; try with_reducible rfl)
      try simp only [Act.put, List.setIfInBounds_toArray, List.set_cons_zero, List.set_cons_succ]
    refine wpHeld_nil ?_
    refine wpOp_step rfl (fun K hK => ?_)
    go_simp
    refine hK _ _ ⟨?_, ?_⟩
    · clear hK K
      exact HSA.out _
    clear hK K
    have hvd : Boxed wd (w.heap.size + 1) 42 v := by rw [← HWD.out]; exact HV.out
    have hrd : wd.ownsRow w.heap.size 46 3 v pre.length (pre.flatMap fun e => loanCells names e.1) := by rw [← HWD.out]; exact ownsRow_ext HRR.out (Ext.refl W).drew
    have hszd : w.heap.size ≤ wd.heap.size := by rw [← HWD.out]; exact HBW.out.size
    have HVD := hid hvd
    have HRD := hid hrd
    have hmx : pre.length + 1 ≤ maxLen := by have := HLT.out; unfold maxLen; omega
    have HMX := hid hmx
    have H47 : Hid ((pre.length + 1) * 40 ≤ 140737488355328) := hid (by have := HLT.out; omega)
    have hnews : ∀ j u, ([.string x1, .string x2, .int .i64 e.at_] : List Value)[j]? = some u → (wd.alloc (.cells #[.string x1, .string x2, .int .i64 e.at_] 46)).cell? ((⟨wd.heap.size, 0, none⟩ : Addr).add j) = some u := by
      intro j u hu
      have := (Blk.new wd #[.string x1, .string x2, .int .i64 e.at_] 46).cell (0 + j)
      rw [Nat.zero_add] at this
      have h2 : (⟨wd.heap.size, 0, none⟩ : Addr).add j = ⟨wd.heap.size, j, none⟩ := by simp [Addr.add]; exact fun h => h.symm
      rw [h2, this, List.getElem?_toArray]
      exact hu
    have HN := hid hnews
    have hone : ∀ u ∈ ([.string x1, .string x2, .int .i64 e.at_] : List Value), u.oneCell' = true := by
      intro u hu; simp at hu; rcases hu with rfl | rfl | rfl <;> rfl
    have HONE := hid hone
    have HBASE : Hid (w.heap.size ≤ (wd.alloc (.cells #[.string x1, .string x2, .int .i64 e.at_] 46)).heap.size) := hid (by simp; omega)
    clear hvd hrd hmx hnews hone hSd
    go_wp2_with (at_builtin; refine wpList_append_lies _ rfl _ _ 42 rfl w.heap.size 46 i0 (.agg #[.string ⟨#[]⟩, .string ⟨#[]⟩, .int .i64 0]) 3 40 Tryz.underlying42 hi hz0 hz1 hz2 rfl (by decide) v pre.length (pre.flatMap fun e => loanCells names e.1) rfl (ownsRow_ext HRD.out ((Ext.refl _).alloc _)) ⟨wd.heap.size, 0, none⟩ 1 1 [.string x1, .string x2, .int .i64 e.at_] rfl rfl HN.out HONE.out (by decide) HMX.out H47.out HBASE.out (wd.heap.size + 1) (by simp) ?_; intro g cap w3 hown3 hgrow hatt hltt; clear hatt hltt; have hq := Boxed.appended HVD.out (by decide) HRD.out hszd (Nat.le_add_right _ 1) hown3 hgrow; have c3 := hq.1.cell; have f3 := hq.1.frozen; have HQ := hid hq; have HG := hid hgrow; clear hq hown3 hgrow)
    obtain ⟨hv1, hv2, hr2, hko, hbe⟩ := HQ.out
    have hb1d : Boxed wd w.heap.size 25 (ptr p) := by rw [← HWD.out]; exact HB1.out
    have hb13 : Boxed w3 w.heap.size 25 (ptr p) := (hb1d.alloc _).kept HG.out (hb1d.not_row (by decide) HRD.out)
    refine ⟨?_, ?_, ⟨⟨_, hv2, ?_, trivial⟩, hb13.other (by omega) _, ?_⟩⟩
    · have := hko
      rw [← HWD.out] at this
      exact (KeepsOthers.drew W).trans this
    · have hk : EntKeeps wd _ := entKeeps_of (b := w.heap.size + 1) (u := .slice (some ⟨g, 0, none⟩) (pre.length + 1) cap) HG.out (fun c cur hc hb => by
        obtain ⟨cur', hc'⟩ := ownsRow_type HRD.out hc
        exact absurd (hb.uniq hc').2 (by decide)) (fun cur hb => absurd (hb.uniq (show Blk wd (w.heap.size + 1) #[v] 42 from HVD.out)).2 (by decide))
      intro b cur hb
      exact hk b cur (by rw [← HWD.out]; exact hb.drew)
    · rw [List.length_append, List.flatMap_append, show ([(⟨e, he⟩ : EntIn es)].flatMap fun e => loanCells names e.1) = loanCells names e by simp, HCE.out]
      exact hr2
    · have := hbe
      rw [← HWD.out] at this
      exact HBW.out.trans (((Below.refl _ W).drew).trans this)
  case done =>
    rintro D xs W hD hxs ⟨⟨v, hv, hr, _⟩, hb1, hBW⟩ hK
    have c3 := hv.cell
    have HV := hid hv
    have HRR := hid hr
    have HBW := hid hBW
    have HK := hid hK
    have HXS := hid hxs
    clear hv hr hb1 hBW hK hxs
    gi_wp2_with fail
    refine ⟨by simp, .inl ⟨_, _, rfl, run_takeDeferred HK.out, ?_⟩⟩
    refine ⟨_, results_tmp rfl _ _ _, v, rfl, ?_, ?_⟩
    · have hb : Below w.heap.size W (W.putObj D (.deferred none)) := (Below.refl _ W).grown (grownBy_putObj' W D _) HBW.out.size (fun k e => by cases e; omega)
      exact Ext.of_below (HBW.out.trans hb)
    · have := ownsRow_putObj HRR.out (.deferred none) HK.out rfl
      rw [HXS.out] at this
      rw [show es.attach.length = es.length by simp] at this
      rw [show (es.attach.flatMap fun e => loanCells names e.1) = es.flatMap (loanCells names) by rw [← List.flatMap_map (f := Subtype.val) (g := loanCells names), List.attach_map_subtype_val]] at this
      exact this
  case stop =>
    rintro D c pre W _ _ h _
    exact h.elim

/-- Loans, at an organisation. -/
theorem OrgAt.loans_any {w : World} {own : Own} {p : Nat} {S : OrgS} {m : Nat} (h : OrgAt w own p S) (hi : S.Inv m) (hm : m ≤ 60000) :
    Calls Tryz.prog 31 #[ptr p] w fun e w' => ∃ l, e = .returned l ∧ Ext w w' ∧ w'.ownsRow w.heap.size 46 3 l S.es.length (S.es.flatMap (loanCells S.un)) := by
  obtain ⟨mU, nU, kU, mR, nR, kR, br, pa, ub, rb, D, g⟩ := h
  obtain ⟨ad, cn, hn⟩ := row_form g.ru.n
  have c1 : w.cell? ⟨p, 1, none⟩ = some (.slice ad S.un.length cn) := (show w.cell? ⟨p, 1, none⟩ = some nU from g.blk.cell 1).trans (congrArg some hn)
  have c9 : w.cell? ⟨p, 9, none⟩ = some (ptr pa) := (g.blk.cell 9).trans rfl
  refine callsIn_wide.1 (loans_in 5 p pa S.un ad cn S.es S.turns D w (Nat.le_refl _) c1 c9 (fun k x hx => ?_) g.ag (Nat.le_trans hi.es hm) hi.ul64 fun e he => ?_)
  · have hx2 : (S.un.map Value.string)[k]? = some (.string x) := by rw [List.getElem?_map, hx]; rfl
    obtain ⟨gk, cap', hv, cg, _, hg⟩ := row_cell g.ru.n hx2
    rw [hn] at hv
    injection hv with q1 q2 q3
    exact ⟨gk, q1, fun W hW => (hW.cell (a := ⟨gk, k, none⟩) hg id).trans cg⟩
  · obtain ⟨f, t, _, _, hid', ⟨u, hu⟩, ⟨v, hv⟩, _⟩ := hi.loans e he
    refine ⟨f, t, hid', ?_, ?_⟩
    · have := (List.getElem?_eq_some_iff.1 hu).1
      rw [hi.ul] at this; exact this
    · have := (List.getElem?_eq_some_iff.1 hv).1
      rw [hi.ul] at this; exact this
end Go.Proofs.YtnippamifihdpaaGreatDoor
