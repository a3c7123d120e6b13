/- A register (printed by gen_reg.py): get, add. -/
import Derived.Test.YtnippamifihdpaaGreatDoorKNames
import Derived.BigQuiet
import Derived.Deep.AppendLies
namespace Go.Proofs.YtnippamifihdpaaGreatDoor
open Go Go.RowKit

theorem undMapR : Tryz.prog.underlying 93 = some (.map 9 3) := by kernel_rfl
theorem zeroIntR (w : World) : (zeroValue 3).run Tryz.prog w = .ok (.int .i64 0) w := by kernel_rfl

set_option maxRecDepth 100000 in
set_option maxHeartbeats 2000000 in
theorem getR_any (w : World) (own : Own) (p : Nat) (mv nv kv : Value) (names : List ByteArray) (kb : List (Option Nat)) (name : ByteArray)
    (h : RegAt w own true 114 mv nv kv names kb) (c0 : w.cell? ⟨p, 4, none⟩ = some mv) (c2 : w.cell? ⟨p, 6, none⟩ = some kv) :
    Calls Tryz.prog 153 #[.pointer (some ⟨p, 4, none⟩), .string name] w fun e w' => e = .returned (getV (regFind names kb name)) ∧ Ext w w' := by
  obtain ⟨m, es, clock, rfl, ho, hm, hp⟩ := h.m
  have hle := h.le
  have hlen := h.len
  obtain ⟨ad, cap, hkv⟩ := row_form h.k
  subst hkv
  rcases find_names (f := numV names) hp name with ⟨j, e, hf, hj, hv⟩ | ⟨hf, hno⟩
  · have hmem : name ∈ names := List.mem_of_getElem? hj
    have hlt := idxOf_lt hmem
    have hlk := run_lookup_hit undMapR undStr w hm (.str name) j e hf
    rw [hv] at hlk
    unfold numV at hlk
    unfold regFind
    rw [if_pos hmem]
    obtain ⟨i, hi⟩ : ∃ i, names.idxOf name = i := ⟨_, rfl⟩
    rw [hi] at hlk hlt ⊢
    obtain ⟨x, hx⟩ : ∃ x, kb[i]? = some x := ⟨kb[i]'(by omega), List.getElem?_eq_getElem (by omega)⟩
    rw [List.getD_eq_getElem?_getD, hx]
    have hx2 : (kb.map kptr)[i]? = some (kptr x) := by rw [List.getElem?_map, hx]; rfl
    obtain ⟨g, cap', hkv, cg, fg, hg⟩ := row_cell h.k hx2
    injection hkv with q1 q2 q3
    subst q1 q3
    have hi0 : (0 : Int) ≤ i := by omega
    have hi1 : (i : Int) < kb.length := by omega
    clear h hm ho hp hf hj hv hmem hx hx2 hi
    cases x with
    | none =>
      rw [show kptr none = .pointer none from rfl] at cg
      go_enter Tryz.func153, Tryz.ntmps153
      go_wp2_with fail
      go_ret2
      exact ⟨rfl, Fr.refl _ w⟩
    | some b =>
      rw [show kptr (some b) = ptr b from rfl] at cg
      go_enter Tryz.func153, Tryz.ntmps153
      go_wp2_with (go_quiet (fail))
      go_ret2
      exact ⟨rfl, (Fr.refl _ w).drewN _⟩
  · have hlk := run_lookup_miss undMapR undStr zeroIntR w hm (.str name) hf
    unfold regFind
    rw [if_neg hno]
    clear h hm ho hp hf hno
    go_enter Tryz.func153, Tryz.ntmps153
    go_wp2_with fail
    go_ret2
    exact ⟨rfl, Fr.refl _ w⟩

theorem infoSR : (Tryz.prog.info? 9).map (fun i => (i.zero, i.size, i.bytes)) = some (some (.string ⟨#[]⟩), 1, 16) := by kernel_rfl
theorem infoPR : (Tryz.prog.info? 114).map (fun i => (i.zero, i.size, i.bytes)) = some (some (.pointer none), 1, 8) := by kernel_rfl

set_option maxRecDepth 100000 in
set_option maxHeartbeats 8000000 in
theorem addNewR (w : World) (p m clock n k1 k2 : Nat) (a1 a2 : Option Addr) (es : Array MapEntry) (xs ks : List Value) (name : ByteArray) (b : Nat) (cs : Array Value) (hleg : legalB name = true)
    (hm : w.heap[m]? = some (.map es clock)) (hf : Instr.findNow .string (.string name) es.toList 0 = some none)
    (hp : Blk w p cs 103) (c0 : cs[4]? = some (.map (some m))) (c1 : cs[5]? = some (.slice a1 n k1)) (c2 : cs[6]? = some (.slice a2 n k2)) (c3 : cs[7]? = some (.int .i64 64))
    (hn : w.ownsRow 0 9 1 (.slice a1 n k1) n xs) (hk : w.ownsRow 0 114 1 (.slice a2 n k2) n ks) (hn64 : n < 64) (hl : ks.length = n)
    (hpn : some p ≠ (Value.slice a1 n k1).ownBlock) (hpk : some p ≠ (Value.slice a2 n k2).ownBlock) (hmn : some m ≠ (Value.slice a1 n k1).ownBlock) (hmk : some m ≠ (Value.slice a2 n k2).ownBlock)
    (hnk : ∀ c, some c = (Value.slice a1 n k1).ownBlock → some c ≠ (Value.slice a2 n k2).ownBlock) :
    Calls Tryz.prog 60 #[.pointer (some ⟨p, 4, none⟩), .string name, ptr b] w fun e w' => e = .returned (.tuple #[.int .i64 n, .int .i64 0]) ∧
      ∃ g1 q1 g2 q2, w'.ownsRow 0 9 1 (.slice (some ⟨g1, 0, none⟩) (n + 1) q1) (n + 1) (xs ++ [.string name]) ∧ w'.ownsRow 0 114 1 (.slice (some ⟨g2, 0, none⟩) (n + 1) q2) (n + 1) (ks ++ [ptr b]) ∧
        w'.heap[m]? = some (.map (es.push { key := .string name, val := .int .i64 n, born := clock }) (clock + 1)) ∧
        Blk w' p ((cs.setIfInBounds 5 (.slice (some ⟨g1, 0, none⟩) (n + 1) q1)).setIfInBounds 6 (.slice (some ⟨g2, 0, none⟩) (n + 1) q2)) 103 ∧
        ((Value.slice a1 n k1).ownBlock = some g1 ∨ w.heap.size ≤ g1) ∧ ((Value.slice a2 n k2).ownBlock = some g2 ∨ w.heap.size ≤ g2) ∧
        Fr (fun c => c = m ∨ c = p ∨ some c = (Value.slice a1 n k1).ownBlock ∨ some c = (Value.slice a2 n k2).ownBlock) w w' := by
  obtain ⟨i1, hi1, hy1, hy2, hy3⟩ := info_parts infoSR
  obtain ⟨i0, hi, hz0, hz1, hz2⟩ := info_parts infoPR
  have hlk := run_lookup_miss undMapR undStr zeroIntR w hm (.str name) hf
  have hup := run_mapUpdate_new (v := .int .i64 n) undMapR undStr w hm (.str name) hf
  have hmp : m ≠ p := by
    rintro rfl
    rw [show w.heap[m]? = _ from hp] at hm
    cases hm
  have F1 : Fr (fun c => c = m) w (setMap w m (es.push { key := .string name, val := .int .i64 n, born := clock }) (clock + 1)) := (Fr.refl (fun c => c = m) w).setMap (.inl rfl) _ _
  have m1 := setMap_at (es' := es.push { key := .string name, val := .int .i64 n, born := clock }) (clock' := clock + 1) hm
  have hs1 := setMap_size w m (clock + 1) (es.push { key := .string name, val := .int .i64 n, born := clock })
  obtain ⟨w1, hw1⟩ : ∃ w1, setMap w m (es.push { key := .string name, val := .int .i64 n, born := clock }) (clock + 1) = w1 := ⟨_, rfl⟩
  have hup2 : ∀ k, (Instr.mapUpdate 93 (.map (some m)) (.string name) (.int .i64 n)).run Tryz.prog (w.drewN k) = .ok () (w1.drewN k) := fun k => by
    rw [← hw1]
    exact run_mapUpdate_new (v := .int .i64 n) undMapR undStr (w.drewN k) (show (w.drewN k).heap[m]? = _ from hm) (.str name) hf
  rw [hw1] at F1 m1 hs1
  clear hup
  have hp1 := hp.fr F1 (Ne.symm hmp)
  have hn1 := ownsRow_fr hn F1 (fun c hc hq => hmn (by rw [← hq]; exact hc))
  have hk1 := ownsRow_fr hk F1 (fun c hc hq => hmk (by rw [← hq]; exact hc))
  have lp := hp1.lt
  have d0 := (hp.cell 4).trans c0
  have d1 := (hp.cell 5).trans c1
  have d3 := (hp.cell 7).trans c3
  have e1 := (hp1.cell 5).trans c1
  have e2 := (hp1.cell 6).trans c2
  have f1 := hp1.frozen 5
  have f2 := hp1.frozen 6
  have h63 : n + 1 ≤ maxLen := by unfold maxLen; omega
  have HM := hid h63
  have H47 : Hid ((n + 1) * 8 ≤ 140737488355328) := hid (by omega)
  have H16 : Hid ((n + 1) * 16 ≤ 140737488355328) := hid (by omega)
  have h64 : ((n : Int) == 64) = false := by rw [beq_eq_false_iff_ne]; omega
  have HP := hid hp1
  have HN := hid hn1
  have HK := hid hk1
  have HF := hid F1
  have HS := hid hs1
  have HMM := hid m1
  have HPN := hid hpn
  have HPK := hid hpk
  have HNK := hid hnk
  have HMN := hid hmn
  have HMK := hid hmk
  have HC1 := hid c1
  have HC2 := hid c2
  clear hm hf hp c0 c1 c2 c3 hn hk F1 m1 hs1 hw1 hp1 hn1 hk1 h63 hpn hpk hmn hmk hnk
  go_enter Tryz.func60, Tryz.ntmps60
  have hni : (n : Int) < ((n + 1 : Nat) : Int) := by omega
  have hn0 : (0 : Int) ≤ (n : Int) := by omega
  go_wp2_with (first | (go_at_call 152; refine (legal_any name _).mono ?_; rintro r w1 ⟨rfl, rfl⟩; rw [hleg]) | (at_builtin; refine wpList_append_lies _ rfl _ _ 34 rfl 0 9 i1 (.string ⟨#[]⟩) 1 16 Tryz.underlying34 hi1 hy1 hy2 hy3 rfl (by decide) _ n xs rfl (ownsRow_ext HN.out (((Ext.refl w1).drewN _).alloc _)) ⟨w1.heap.size, 0, none⟩ 1 1 [.string name] rfl rfl (one_new _ _ _ _ (by simp)) (by simp [Value.oneCell']) (by decide) HM.out H16.out (Nat.zero_le _) (w1.heap.size + 1) (by simp) ?_; intro g1 q1 w2 ho2 hg2 ha2 hl2; have F2 := (Fr.of_grown hg2).of_alloc.of_drewN; have hp2 := HP.out.fr F2 (fun h => HPN.out h); have hk2 := ownsRow_fr HK.out F2 (fun c hc hq => HNK.out c hq hc); have HM2 := hid (F2.obj HMM.out (fun h => HMN.out h)); have r1 := (hp2.cell 5).trans HC1.out; have r2 := (hp2.cell 6).trans HC2.out; have s1 := hp2.frozen 5; have s2 := hp2.frozen 6; have HP2 := hid hp2; have HK2 := hid hk2; have HF2 := hid F2; have HO2 := hid ho2; have HA2 := hid ha2; clear hp2 hk2 F2 ho2 hg2 ha2) | (at_builtin; refine wpList_append_lies _ rfl _ _ 97 rfl 0 114 i0 (.pointer none) 1 8 Tryz.underlying97 hi hz0 hz1 hz2 rfl (by decide) _ n ks rfl (ownsRow_ext (ownsRow_fr (S := fun c => c = p) HK2.out ((Fr.refl (fun c => c = p) w2).setCell (p := ⟨p, 5, none⟩) (.inl rfl) (.slice (some ⟨g1, 0, none⟩) (n + 1) q1)) (fun c hc hq => HPK.out (hq ▸ hc))) ((Ext.refl _).alloc _)) ⟨w2.heap.size, 0, none⟩ 1 1 [.pointer none] rfl rfl (one_new _ _ _ _ (by simp)) (by simp [Value.oneCell']) (by decide) HM.out H47.out (Nat.zero_le _) (w2.heap.size + 1) (by simp) ?_; intro g2 q2 w3 ho3 hg3 ha3 hl3; have F3 := (Fr.of_grown hg3).of_alloc; have hp3 := (HP2.out.setCell 5 (.slice (some ⟨g1, 0, none⟩) (n + 1) q1)).fr F3 (fun h => HPK.out h); have r3 := (hp3.cell 6).trans ((Array.getElem?_setIfInBounds_ne (by decide)).trans HC2.out); have s3 := hp3.frozen 6; obtain ⟨t3, u3⟩ := row_at ho3 (i := n) (x := .pointer none) (last_at hl); have hpg : p ≠ g2 := new_ne ha3 HPK.out (by have := HP2.out.lt; omega); have HP3 := hid hp3; have HF3 := hid F3; have HO3 := hid ho3; have HA3 := hid ha3; clear F3 ho3 hg3 ha3 hp3) | go_quiet (fail))
  go_ret2
  have hsz1 : w.heap.size ≤ w1.heap.size := HF.out.size
  have hsz2 : w1.heap.size ≤ w2.heap.size := HF2.out.size
  have hkl : ∀ c, some c = (Value.slice a2 n k2).ownBlock → c < w1.heap.size := fun c hc => row_block_lt HK.out hc
  have hpg1 : p ≠ g1 := new_ne HA2.out HPN.out (by omega)
  have hmg2 : m ≠ g2 := new_ne HA3.out HMK.out (by have := (Array.getElem?_eq_some_iff.1 HM2.out).1; omega)
  have hg12 : g1 ≠ g2 := by
    refine new_ne HA3.out ?_ (by omega)
    rcases HA2.out with h | h
    · exact HNK.out g1 h.symm
    · intro hq
      have := hkl g1 hq
      omega
  have hg1k : some g1 ≠ (Value.slice a2 n k2).ownBlock := by
    rcases HA2.out with h | h
    · exact HNK.out g1 h.symm
    · intro hq
      have := hkl g1 hq
      omega
  have G1 : Fr (fun c => c = p) w2 (w2.setCell ⟨p, 5, none⟩ (.slice (some ⟨g1, 0, none⟩) (n + 1) q1)) := (Fr.refl (fun c => c = p) w2).setCell (p := ⟨p, 5, none⟩) (.inl rfl) _
  have G2 : Fr (fun c => c = p) w3 (w3.setCell ⟨p, 6, none⟩ (.slice (some ⟨g2, 0, none⟩) (n + 1) q2)) := (Fr.refl (fun c => c = p) w3).setCell (p := ⟨p, 6, none⟩) (.inl rfl) _
  have G3 : Fr (fun c => c = p ∨ c = g2) w3 ((w3.setCell ⟨p, 6, none⟩ (.slice (some ⟨g2, 0, none⟩) (n + 1) q2)).setCell ⟨g2, n, none⟩ (ptr b)) := (G2.mono fun _ _ h => .inl h).setCell (p := ⟨g2, n, none⟩) (.inl (.inr rfl)) _
  refine ⟨rfl, g1, q1, g2, q2, ?_, ?_, ?_, ?_, ?_, ?_, ?_⟩
  · have r1 := ownsRow_fr HO2.out G1 (fun c hc hq => hpg1 (hq.symm.trans (Option.some.inj hc)))
    have r2 := ownsRow_fr r1 HF3.out (fun c hc hq => hg1k (by rw [← show c = g1 from Option.some.inj hc]; exact hq))
    exact ownsRow_fr r2 G3 (fun c hc hq => by
      have hc : c = g1 := Option.some.inj hc
      rcases hq with hq | hq
      · exact hpg1 (hq.symm.trans hc)
      · exact hg12 (hc.symm.trans hq))
  · have r1 := ownsRow_set (ownsRow_fr HO3.out G2 (fun c hc hq => hpg (hq.symm.trans (Option.some.inj hc)))) n (ptr b)
    rw [show (ks ++ [Value.pointer none]).set n (ptr b) = ks ++ [ptr b] from by rw [← hl]; simp] at r1
    exact r1
  · refine G3.obj (HF3.out.obj (G1.obj HM2.out hmp) (fun h => HMK.out h)) ?_
    rintro (h | h)
    · exact hmp h
    · exact hmg2 h
  · exact (HP3.out.setCell 6 _).setCell_other (p := ⟨g2, n, none⟩) hpg _
  · exact HA2.out.imp id (fun h => by omega)
  · exact HA3.out.imp id (fun h => by omega)
  · have T1 : Fr (fun c => c = m ∨ c = p ∨ some c = (Value.slice a1 n k1).ownBlock ∨ some c = (Value.slice a2 n k2).ownBlock) w w2 := (HF.out.mono fun _ _ h => .inl h).trans' HF2.out fun _ _ h => .inr (.inr (.inl h))
    have T2 := (T1.trans' G1 fun _ _ h => .inr (.inl h)).trans' HF3.out fun _ _ h => .inr (.inr (.inr h))
    have T3 := T2.setCell (p := ⟨p, 6, none⟩) (.inl (.inr (.inl rfl))) (.slice (some ⟨g2, 0, none⟩) (n + 1) q2)
    refine T3.setCell (p := ⟨g2, n, none⟩) ?_ _
    rcases HA3.out with h | h
    · exact .inl (.inr (.inr (.inr h.symm)))
    · right
      show w.heap.size ≤ g2
      omega

/-- What the look-up in a register's map answers. -/
theorem lookR {w : World} {own : Own} {mv nv kv : Value} {names : List ByteArray} {kb : List (Option Nat)} (h : RegAt w own true 114 mv nv kv names kb) (name : ByteArray) :
    ∃ m i, mv = .map (some m) ∧ (Instr.lookup 93 (.map (some m)) (.string name) true).run Tryz.prog w = .ok (.tuple #[.int .i64 (i : Nat), .bool (decide (name ∈ names))]) w ∧ (name ∈ names → i = names.idxOf name) := by
  obtain ⟨m, es, clock, rfl, ho, hm, hp⟩ := h.m
  rcases find_names (f := numV names) hp name with ⟨j, e, hf, hj, hv⟩ | ⟨hf, hno⟩
  · have hmem : name ∈ names := List.mem_of_getElem? hj
    have hlk := run_lookup_hit undMapR undStr w hm (.str name) j e hf
    rw [hv] at hlk
    exact ⟨m, _, rfl, by rw [decide_eq_true hmem]; exact hlk, fun _ => rfl⟩
  · exact ⟨m, 0, rfl, by rw [decide_eq_false hno]; exact run_lookup_miss undMapR undStr zeroIntR w hm (.str name) hf, fun h => (hno h).elim⟩

set_option maxRecDepth 100000 in
set_option maxHeartbeats 2000000 in
theorem addBadR (w : World) (own : Own) (p b : Nat) (mv nv kv : Value) (names : List ByteArray) (kb : List (Option Nat)) (name : ByteArray) (hleg : legalB name = false)
    (h : RegAt w own true 114 mv nv kv names kb) (c0 : w.cell? ⟨p, 4, none⟩ = some mv) :
    Calls Tryz.prog 60 #[.pointer (some ⟨p, 4, none⟩), .string name, ptr b] w fun e w' => e = .returned (.tuple #[.int .i64 0, .int .i64 4]) ∧ Ext w w' := by
  obtain ⟨m, i, rfl, hlk, _⟩ := lookR h name
  clear h
  go_enter Tryz.func60, Tryz.ntmps60
  go_wp2_with (first | (go_at_call 152; refine (legal_any name _).mono ?_; rintro r w1 ⟨rfl, rfl⟩; rw [hleg]))
  go_ret2
  exact ⟨rfl, Fr.refl _ _⟩

set_option maxRecDepth 100000 in
set_option maxHeartbeats 2000000 in
theorem addTwiceR (w : World) (own : Own) (p b x : Nat) (mv nv kv : Value) (names : List ByteArray) (kb : List (Option Nat)) (name : ByteArray) (hleg : legalB name = true) (hin : name ∈ names) (hx : kb[names.idxOf name]? = some (some x))
    (h : RegAt w own true 114 mv nv kv names kb) (c0 : w.cell? ⟨p, 4, none⟩ = some mv) (c2 : w.cell? ⟨p, 6, none⟩ = some kv) :
    Calls Tryz.prog 60 #[.pointer (some ⟨p, 4, none⟩), .string name, ptr b] w fun e w' => e = .returned (.tuple #[.int .i64 0, .int .i64 5]) ∧ Ext w w' := by
  obtain ⟨m, i, rfl, hlk, hi⟩ := lookR h name
  have hi := hi hin
  have hlt := idxOf_lt hin
  rw [← hi] at hx hlt
  rw [decide_eq_true hin] at hlk
  have hx2 : (kb.map kptr)[i]? = some (ptr x) := by rw [List.getElem?_map, hx]; rfl
  obtain ⟨g, cap', rfl, cg, fg, hg⟩ := row_cell h.k hx2
  have hlen := h.len
  have hi0 : (0 : Int) ≤ i := by omega
  have hi1 : (i : Int) < kb.length := by omega
  clear h hi hin hx hx2
  go_enter Tryz.func60, Tryz.ntmps60
  go_wp2_with (first | (go_at_call 152; refine (legal_any name _).mono ?_; rintro r w1 ⟨rfl, rfl⟩; rw [hleg]))
  go_ret2
  exact ⟨rfl, Fr.refl _ _⟩

set_option maxRecDepth 100000 in
set_option maxHeartbeats 2000000 in
theorem addFullR (w : World) (own : Own) (p b : Nat) (mv nv kv : Value) (names : List ByteArray) (kb : List (Option Nat)) (name : ByteArray) (hleg : legalB name = true) (hin : name ∉ names) (hfull : names.length = 64)
    (h : RegAt w own true 114 mv nv kv names kb) (c0 : w.cell? ⟨p, 4, none⟩ = some mv) (c1 : w.cell? ⟨p, 5, none⟩ = some nv) (c3 : w.cell? ⟨p, 7, none⟩ = some (.int .i64 64)) :
    Calls Tryz.prog 60 #[.pointer (some ⟨p, 4, none⟩), .string name, ptr b] w fun e w' => e = .returned (.tuple #[.int .i64 0, .int .i64 2]) ∧ Ext w w' := by
  obtain ⟨m, i, rfl, hlk, hi⟩ := lookR h name
  rw [decide_eq_false hin] at hlk
  obtain ⟨ad, cap, rfl⟩ := row_form h.n
  rw [hfull] at c1
  clear h hi hin
  go_enter Tryz.func60, Tryz.ntmps60
  go_wp2_with (first | (go_at_call 152; refine (legal_any name _).mono ?_; rintro r w1 ⟨rfl, rfl⟩; rw [hleg]) | go_quiet (fail))
  go_ret2
  exact ⟨rfl, (Fr.refl _ _).drewN _⟩

set_option maxRecDepth 100000 in
set_option maxHeartbeats 4000000 in
theorem addAgainR (w : World) (own : Own) (p b : Nat) (mv nv kv : Value) (names : List ByteArray) (kb : List (Option Nat)) (name : ByteArray) (hleg : legalB name = true) (hin : name ∈ names) (hx : kb[names.idxOf name]? = some none)
    (h : RegAt w own true 114 mv nv kv names kb) (c0 : w.cell? ⟨p, 4, none⟩ = some mv) (c2 : w.cell? ⟨p, 6, none⟩ = some kv) (hpk : some p ≠ kv.ownBlock) :
    Calls Tryz.prog 60 #[.pointer (some ⟨p, 4, none⟩), .string name, ptr b] w fun e w' => e = .returned (.tuple #[.int .i64 (names.idxOf name), .int .i64 0]) ∧
      w'.ownsRow 0 114 1 kv kb.length ((kb.set (names.idxOf name) (some b)).map kptr) ∧ Fr (fun c => some c = kv.ownBlock) w w' := by
  obtain ⟨m, i, rfl, hlk, hi⟩ := lookR h name
  have hi := hi hin
  have hlt := idxOf_lt hin
  rw [← hi] at hx hlt ⊢
  rw [decide_eq_true hin] at hlk
  have hx2 : (kb.map kptr)[i]? = some (.pointer none) := by rw [List.getElem?_map, hx]; rfl
  have hk := h.k
  obtain ⟨g, cap', rfl, cg, fg, hg⟩ := row_cell h.k hx2
  have hlen := h.len
  have hi0 : (0 : Int) ≤ i := by omega
  have hi1 : (i : Int) < kb.length := by omega
  have HK := hid hk
  clear h hi hin hx hx2 hk
  go_enter Tryz.func60, Tryz.ntmps60
  go_wp2_with (first | (go_at_call 152; refine (legal_any name _).mono ?_; rintro r w1 ⟨rfl, rfl⟩; rw [hleg]) | go_quiet (fail))
  go_ret2
  have r1 : ∀ q, ((w.drewN q).setCell ⟨g, i, none⟩ (ptr b)).ownsRow 0 114 1 (.slice (some ⟨g, 0, none⟩) kb.length cap') kb.length ((kb.set i (some b)).map kptr) := fun q => by
    rw [List.map_set]
    exact ownsRow_set (ownsRow_ext HK.out ((Ext.refl w).drewN q)) i (ptr b)
  exact ⟨rfl, r1 _, ((Fr.refl (fun c => some c = (Value.slice (some ⟨g, 0, none⟩) kb.length cap').ownBlock) w).drewN _).setCell (p := ⟨g, i, none⟩) (.inl rfl) _⟩

theorem addR_any (w : World) (own : Own) (p b : Nat) (cs : Array Value) (mv nv kv : Value) (names : List ByteArray) (kb : List (Option Nat)) (name : ByteArray)
    (h : RegAt w own true 114 mv nv kv names kb) (hp : Blk w p cs 103) (c0 : cs[4]? = some mv) (c1 : cs[5]? = some nv) (c2 : cs[6]? = some kv) (c3 : cs[7]? = some (.int .i64 64))
    (hpo : own p = some .org) (hlo : ∀ c t, own c = some t → c < w.heap.size) :
    Calls Tryz.prog 60 #[.pointer (some ⟨p, 4, none⟩), .string name, ptr b] w fun e w' => e = .returned (.tuple #[.int .i64 (regAdd names kb name).1, .int .i64 (regAdd names kb name).2]) ∧
      AddPost w own true 114 p 4 cs mv (regNext names kb name b).1 (regNext names kb name b).2 103 w' := by
  have d0 := (hp.cell 4).trans c0
  have d1 := (hp.cell 5).trans c1
  have d2 := (hp.cell 6).trans c2
  have d3 := (hp.cell 7).trans c3
  have hpk : some p ≠ kv.ownBlock := fun hq => by have := h.kb p hq; rw [hpo] at this; cases this
  have hpn : some p ≠ nv.ownBlock := fun hq => by have := h.nb p hq; rw [hpo] at this; cases this
  unfold regAdd regNext
  cases hleg : legalB name
  · simp only [if_true]
    exact (addBadR w own p b mv nv kv names kb name hleg h d0).mono fun e w' k => ⟨k.1, AddPost.ext h hp c1 c2 hlo k.2⟩
  simp only [Bool.true_eq_false, if_false]
  by_cases hin : name ∈ names
  · simp only [if_pos hin]
    have hlt := idxOf_lt hin
    have hlen := h.len
    obtain ⟨x, hx⟩ : ∃ x, kb[names.idxOf name]? = some x := ⟨kb[names.idxOf name]'(by omega), List.getElem?_eq_getElem (by omega)⟩
    rw [List.getD_eq_getElem?_getD, hx]
    cases x with
    | some x => exact (addTwiceR w own p b x mv nv kv names kb name hleg hin hx h d0 d2).mono fun e w' k => ⟨k.1, AddPost.ext h hp c1 c2 hlo k.2⟩
    | none =>
      refine (addAgainR w own p b mv nv kv names kb name hleg hin hx h d0 d2 hpk).mono ?_
      rintro e w' ⟨he, hr, hF⟩
      refine ⟨he, own, nv, kv, ?_, by rw [set_same c1, set_same c2]; exact hp.fr hF hpk, hF.mono fun c _ hc => .inr (.inr (.inr (h.kb c hc))), OwnGrow.refl _ _, fun c t hc => Nat.lt_of_lt_of_le (hlo c t hc) hF.size⟩
      obtain ⟨m, es, clock, h1, h2, h3, h4⟩ := h.m
      refine ⟨by simpa using hlen, h.le, h.nodup, ⟨m, es, clock, h1, h2, hF.obj h3 (fun hq => by have := h.kb m hq; rw [h2] at this; cases this), h4⟩, ownsRow_fr h.n hF (fun c hc hq => by have := h.nb c hc; rw [h.kb c hq] at this; cases this), h.nb, ?_, h.kb⟩
      show w'.ownsRow 0 114 1 kv (kb.set (names.idxOf name) (some b)).length ((kb.set (names.idxOf name) (some b)).map kptr)
      rw [List.length_set]
      exact hr
  · simp only [if_neg hin]
    by_cases hfull : names.length = 64
    · simp only [if_pos hfull]
      exact (addFullR w own p b mv nv kv names kb name hleg hin hfull h d0 d1 d3).mono fun e w' k => ⟨k.1, AddPost.ext h hp c1 c2 hlo k.2⟩
    · simp only [if_neg hfull]
      have hle := h.le
      have hlen := h.len
      obtain ⟨m, es, clock, rfl, ho, hm, hpr⟩ := h.m
      have hf : Instr.findNow .string (.string name) es.toList 0 = some none := by
        rcases find_names (f := numV names) hpr name with ⟨j, e, hf, hj, hv⟩ | ⟨hf, hno⟩
        · exact (hin (List.mem_of_getElem? hj)).elim
        · exact hf
      obtain ⟨a1, k1, rfl⟩ := row_form h.n
      obtain ⟨a2, k2, rfl⟩ := row_form h.k
      have hkrow := h.k
      rw [hlen] at hkrow c2 hpk
      have hkb := h.kb
      rw [hlen] at hkb
      refine (addNewR w p m clock names.length k1 k2 a1 a2 es _ _ name b cs hleg hm hf hp c0 c1 c2 c3 h.n hkrow (by omega) (by simpa using hlen) hpn hpk
        (fun hq => by have := h.nb m hq; rw [ho] at this; cases this) (fun hq => by have := hkb m hq; rw [ho] at this; cases this)
        (fun c hc hq => by have := h.nb c hc; rw [hkb c hq] at this; cases this)).mono ?_
      rintro e w' ⟨he, g1, q1, g2, q2, hn2, hk2, hm2, hp2, hg1, hg2, hF⟩
      have hg1' : own g1 = some (.names true) ∨ (own g1 = none ∧ w.heap.size ≤ g1) := hg1.imp (fun hq => h.nb g1 hq.symm) fun hq => ⟨by
        cases hh : own g1 with
        | none => rfl
        | some t => have := hlo g1 t hh; omega, hq⟩
      have hg12 : g2 ≠ g1 := by
        rintro rfl
        obtain ⟨cur, hc⟩ := row_blk hn2
        obtain ⟨cur', hc'⟩ := row_blk hk2
        exact absurd (hc.uniq hc').2 (by decide)
      have hg2' : (own.put g1 (.names true)) g2 = some (.known true) ∨ ((own.put g1 (.names true)) g2 = none ∧ w.heap.size ≤ g2) := by
        have : (own.put g1 (.names true)) g2 = own g2 := by unfold Own.put; rw [if_neg hg12]
        rw [this]
        exact hg2.imp (fun hq => hkb g2 hq.symm) fun hq => ⟨by
          cases hh : own g2 with
          | none => rfl
          | some t => have := hlo g2 t hh; omega, hq⟩
      have og1 := OwnGrow.put (t := .names true) hg1'
      have og2 := OwnGrow.put (t := .known true) hg2'
      have og := og1.trans og2 (Nat.le_refl _)
      refine ⟨he, (own.put g1 (.names true)).put g2 (.known true), .slice (some ⟨g1, 0, none⟩) (names.length + 1) q1, .slice (some ⟨g2, 0, none⟩) (names.length + 1) q2, ?_, hp2, hF.mono ?_, og, Own.put_lt (Own.put_lt (fun c t hc => Nat.lt_of_lt_of_le (hlo c t hc) hF.size) ((row_blk hn2).elim fun _ h => h.lt)) ((row_blk hk2).elim fun _ h => h.lt)⟩
      · refine ⟨by simp [hlen], by simp; omega, ?_, ⟨m, _, _, rfl, og.1 _ _ ho, hm2, ?_⟩, ?_, ?_, ?_, ?_⟩
        · rw [List.nodup_append]
          refine ⟨h.nodup, by simp, ?_⟩
          intro a ha c hc hq
          simp at hc
          subst hc hq
          exact hin ha
        · simp only [pairsOf, Array.toList_push, List.map_append, List.map_cons, List.map_nil]
          rw [show es.toList.map (fun e => (e.key, e.val)) = _ from hpr]
          congr 1
          · exact List.map_congr_left fun n hn => by rw [numV_append hn]
          · simp only [numV, idxOf_append_self hin]
        · rw [List.length_append, List.map_append]
          exact hn2
        · intro c hc
          have hc : c = g1 := Option.some.inj hc
          subst hc
          exact og2.1 _ _ (Own.put_self _ _ _)
        · rw [List.length_append, List.map_append, hlen]
          exact hk2
        · intro c hc
          have hc : c = g2 := Option.some.inj hc
          subst hc
          exact Own.put_self _ _ _
      · rintro c _ (rfl | rfl | hc | hc)
        · exact .inr (.inl ho)
        · exact .inl rfl
        · exact .inr (.inr (.inl (h.nb c hc)))
        · exact .inr (.inr (.inr (hkb c hc)))
end Go.Proofs.YtnippamifihdpaaGreatDoor
