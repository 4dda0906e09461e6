/- Lemmas for this claim, in parts: Tdel2, Tdel3, Tdel4, Drop. -/
import Derived.Test.YtoalboilghgalaaGreatDoorC27
import Derived.Test.YtoalboilghgalaaGreatDoorC28
import Derived.Test.YtoalboilghgalaaGreatDoorC18
import Derived.Test.YtoalboilghgalaaGreatDoorC01
import Derived.BigQuiet
set_option maxRecDepth 100000
set_option maxHeartbeats 4000000
set_option linter.unusedVariables false
set_option linter.unusedSimpArgs false
/- slices.DeleteFunc of entries: the gaps are taken out, in place. -/
namespace Go.Proofs.YtoalboilghgalaaGreatDoor
open Go.RowKit
open Go.Proofs.Dc (V Ds Ky)
attribute [local go_sem] run_store_float

theorem zero_len (z : Array Value) (n : Nat) : (Builtin.zeroCells z n).toList.length = n * z.size := by simp [Builtin.zeroCells]
theorem zero_one (n : Nat) : ∀ v ∈ (Builtin.zeroCells e0 n).toList, v.oneCell' = true := by
  intro v hv
  unfold Builtin.zeroCells at hv
  rw [Array.toList_map] at hv
  obtain ⟨i, hi, rfl⟩ := List.mem_map.1 hv
  have hs : e0.size = 22 := rfl
  have hlt : i % e0.size < e0.size := Nat.mod_lt _ (by rw [hs]; decide)
  have h := e0_one
  rw [Array.all_eq_true] at h
  have := h _ hlt
  rwa [← getElem!_pos e0 (i % e0.size) hlt] at this
/-- a row's tail is cleared -/
theorem wpList_clr {ops : Array Oper} {rest : List Oper} {o : Oper} {a : Act} {W : World} {Q : Exit → Act → World → Prop} (hgd : o.guard = none) (x : Operand) (ho : o.op = .call { callee := .builtin .clear, args := #[x], argTypes := #[226] })
    (g i n k : Nat) (X : Array Value) (hx : a.eval x = .slice (some ⟨g, i, none⟩) n k) (hb : Blk W g X 245) (hn : 0 < n) (hfit : i + n * 22 ≤ X.size)
    (h : ∀ W' X', Blk W' g X' 245 → X'.size = X.size → X'.toList.take i = X.toList.take i → Only [g] W W' → wpList Tryz.prog ops Q rest (a.put o.dst (.tuple #[])) W') : wpList Tryz.prog ops Q (o :: rest) a W :=
  wpList_plain hgd fun _ hK => by
    obtain ⟨m, rfl⟩ : ∃ m, n = m + 1 := ⟨n - 1, by omega⟩
    have hl : (Builtin.zeroCells e0 (m + 1)).toList.length = (m + 1) * 22 := zero_len e0 (m + 1)
    have hr : (Builtin.clear_ #[226] o.type #[.slice (some ⟨g, i, none⟩) (m + 1) k]).run Tryz.prog W = .ok (.tuple #[]) (W.setRow g (X.toList.take (i + 0) ++ (Builtin.zeroCells e0 (m + 1)).toList ++ X.toList.drop (i + 0 + (Builtin.zeroCells e0 (m + 1)).toList.length)).toArray) := by
      have hst := run_storeCells_at (P := Tryz.prog) g i 245 (Builtin.zeroCells e0 (m + 1)).toList 0 X W hb (by rw [hl]; omega) (zero_one _)
      obtain ⟨z, hz⟩ : ∃ z, z = e0 := ⟨_, rfl⟩
      have hz0 : ∀ w, (zeroValue 245).run Tryz.prog w = .ok (.agg z) w := by rw [hz]; exact zero245
      rw [← hz] at hst ⊢
      clear hz
      simp [Builtin.clear_, run_underlying Tryz.underlying226, hz0, Value.cells, hst]
    obtain ⟨h1, h2⟩ := only_setRow (C := (X.toList.take (i + 0) ++ (Builtin.zeroCells e0 (m + 1)).toList ++ X.toList.drop (i + 0 + (Builtin.zeroCells e0 (m + 1)).toList.length)).toArray) hb
    have hsz : (X.toList.take (i + 0) ++ (Builtin.zeroCells e0 (m + 1)).toList ++ X.toList.drop (i + 0 + (Builtin.zeroCells e0 (m + 1)).toList.length)).toArray.size = X.size := by
      simp only [List.size_toArray, List.length_append, List.length_take, List.length_drop, hl, Array.length_toList]; omega
    have htk : (X.toList.take (i + 0) ++ (Builtin.zeroCells e0 (m + 1)).toList ++ X.toList.drop (i + 0 + (Builtin.zeroCells e0 (m + 1)).toList.length)).toArray.toList.take i = X.toList.take i := by
      rw [List.toList_toArray, List.append_assoc]
      exact List.take_left' (by rw [List.length_take, Array.length_toList]; omega)
    unfold Oper.wp execOp
    simp only [ho, resolve, invoke, builtin, Sem.run_bind, Sem.run_pure, Result.andThen_ok, List.map_toArray, List.map_cons, List.map_nil, hx, hr]
    exact hK _ _ (h _ _ h1 hsz htk h2)

theorem dfun_ent (base g cap : Nat) (E : List GE) (w : World) (hrow : w.ownsRow base 245 22 (.slice (some ⟨g, 0, none⟩) E.length cap) E.length (gAll E)) (hlen : E.length ≤ 1000000) (hgap : (live E).length < E.length) :
    Calls Tryz.prog 257 #[.slice (some ⟨g, 0, none⟩) E.length cap, .func (.func 259) #[] #[]] w fun e w' => e = .returned (.slice (some ⟨g, 0, none⟩) (live E).length cap) ∧ w'.ownsRow base 245 22 (.slice (some ⟨g, 0, none⟩) (live E).length cap) (live E).length (gAll (live E)) ∧ Only [g] w w' := by
  obtain ⟨c, hc, hc1, hc0⟩ := first_gap hgap
  obtain ⟨h1, h2⟩ := hrow
  rcases h2 with ⟨h2, _⟩ | ⟨g', cap', cur, hv, hg, hh, hn, hcm, hs, ht⟩
  · cases h2
  simp only [Value.slice.injEq, Option.some.injEq, Addr.mk.injEq, and_true, true_and] at hv
  obtain ⟨rfl, rfl⟩ := hv
  have hB0 : Blk w g cur 245 := hh
  have hcl : cur.toList.length = cap * 22 := by rw [Array.length_toList, hs]
  have hcomp := Comp.start (X := cur.toList) (by omega) ht hc hc0
  have hwr : ∀ i (hi : i < E.length), w.rangeAt g (i * 22) (eArr E[i]).toList := fun i hi j v hv => by
    have hj : j < 22 := (List.getElem?_eq_some_iff.1 hv).1
    rw [hB0.cell, ← Array.getElem?_toList, ← List.getElem?_take_of_lt (show i * 22 + j < E.length * 22 by omega), ht, gAll_get E i j hi hj, ← eArr_list]
    exact hv
  have c67 := idx_any g cap E w hwr hB0.lt hlen c hc hc1 hc0
  have c59 := fun W x => gone_any x W
  have hb0 := live_before hc hc0
  have hlt0 : (E.take c).length = c := by rw [List.length_take]; omega
  have HG := Lib.hid (And.intro hg (And.intro hcm (And.intro hc1 (And.intro hb0 hlt0))))
  have HS := Lib.hid (And.intro hs (And.intro h1 (And.intro hgap hn)))
  clear hwr hc0 hc1 hcl ht hg hcm hn hb0 hlt0 hgap h1
  go_enter Tryz.func257, Tryz.ntmps257
  go_wp2_with (go_at_call 267; refine c67.mono ?_; rintro e w1 ⟨rfl, hb1⟩)
  have hB1 := hB0.next hb1
  have hO1 : Only [g] w w1 := Only.of_below hb1
  clear hb1 c67
  go_loopg [5, 6] E.length (fun fu s5 s6 wr => ∃ (j : Nat) (X : Array Value), s5 = .int .i64 ((live (E.take j)).length : Nat) ∧ s6 = .int .i64 (j : Nat) ∧ j ≤ E.length ∧ (live (E.take j)).length < j ∧ E.length - j ≤ fu ∧ Blk wr g X 245 ∧ X.size = cap * 22 ∧ Comp E X.toList j ∧ Only [g] w wr)
  case atStart =>
    refine ⟨c + 1, cur, ?_, ?_, hc, ?_, by omega, hB1, HS.out.1, hcomp.skip hc HG.out.2.2.1, hO1⟩
    · rw [live_take hc, if_pos HG.out.2.2.1, HG.out.2.2.2.1, HG.out.2.2.2.2]
    · go_num
    · rw [live_take hc, if_pos HG.out.2.2.1, HG.out.2.2.2.1, HG.out.2.2.2.2]; omega
  case round =>
    obtain ⟨j, X, rfl, rfl, hj, hij, hfu, hX, hXs, hC, hO⟩ := hrel
    obtain ⟨i, hi⟩ : ∃ i, i = (live (E.take j)).length := ⟨_, rfl⟩
    rw [← hi] at hij ⊢
    have HC := Lib.hid hC
    have HO := Lib.hid hO
    have HI := Lib.hid hi
    have HX := Lib.hid hXs
    clear hC hO hi hXs hB1 hO1 hcomp
    by_cases hlt : j < E.length
    · have hfit : E.length * 22 ≤ X.size := by have := HC.out.len; rwa [Array.length_toList] at this
      have HE : Hid (wr.rangeAt g (j * 22) (eArr E[j]).toList) := Lib.hid fun q v hv => by
        have hq : q < 22 := (List.getElem?_eq_some_iff.1 hv).1
        rw [hX.cell, ← Array.getElem?_toList, HC.out.rest _ (by omega) (by omega), gAll_get E j q hlt hq, ← eArr_list]
        exact hv
      have hj0 : (0 : Int) ≤ (j : Int) := by omega
      have hj1 : (j : Int) < (E.length : Int) := by omega
      have hi0 : (0 : Int) ≤ (i : Int) := by omega
      have hi1 : (i : Int) < (E.length : Int) := by omega
      obtain ⟨x, hx⟩ : ∃ x, x = E[j] := ⟨_, rfl⟩
      rw [← hx] at HE
      obtain ⟨q, hq⟩ : ∃ q, q = x.gone := ⟨_, rfl⟩
      have c59x : ∀ W, Calls Tryz.prog 259 #[.agg (eArr x)] W fun e w' => e = .returned (.bool q) ∧ Below W.heap.size W w' := fun W => by rw [hq]; exact c59 W x
      have HQ := Lib.hid hq
      have HXX := Lib.hid hx
      clear c59 hq hx
      have hfi : i * 22 + (eArr x).size ≤ X.size := by show i * 22 + 22 ≤ X.size; omega
      cases q
      · go_wp2_with (first | ((with_reducible show wpList _ _ _ (⟨_, .load 245 _, _, _, _, _⟩ :: _) _ _); refine wpList_load_mid rfl 245 _ rfl g (j * 22) rfl ((eArr x).toList) _ HE.out Tryz.underlying245 rfl Tryz.size245 ?_) | ((with_reducible show wpList _ _ _ (⟨_, .alloc 245, _, _, _, _⟩ :: _) _ _); refine wpList_alloc_blk rfl 245 rfl e0 zero245 ?_; intro wa hR hL hs; clear hs; have hX1 := hX.next hL; have hXl := hX.lt) | ((with_reducible show wpList _ _ _ (⟨_, .store 245 _ _, _, _, _, _⟩ :: _) _ _); refine wpList_store_blk rfl 245 _ _ rfl wr.heap.size (eArr x) e0 245 rfl rfl hR Tryz.size245 (Eq.refl 22) (eArr_one _) ?_; intro wb hR2 hO2; have hX2 := hX1.only hO2 (by simp; omega); have hOb : Only [g] wr wb := (Only.of_below hL).then hO2 (fun x hx => .inr (by simp at hx; omega))) | (go_at_call 259; refine (c59x _).mono ?_; rintro e wc ⟨rfl, hbc⟩; have hR3 := hR2.next hbc; have hX3 := hX2.next hbc; have hO3 : Only [g] wr wc := hOb.trans (Only.of_below hbc)) | ((with_reducible show wpList _ _ _ (⟨_, .load 245 _, _, _, _, _⟩ :: _) _ _); refine wpList_load_blk rfl 245 _ rfl wr.heap.size rfl hR2 Tryz.row245 Tryz.size245 ?_) | ((with_reducible show wpList _ _ _ (⟨_, .load 245 _, _, _, _, _⟩ :: _) _ _); refine wpList_load_blk rfl 245 _ rfl wr.heap.size rfl hR3 Tryz.row245 Tryz.size245 ?_) | ((with_reducible show wpList _ _ _ (⟨_, .store 245 _ _, _, _, _, _⟩ :: _) _ _); refine wpList_store_part rfl 245 _ _ rfl g (i * 22) (eArr x) X 245 rfl rfl hX3 Tryz.size245 hfi (eArr_one _) ?_; intro wd hX4 hO4; have hO5 : Only [g] wr wd := hO3.then hO4 (fun x hx => .inl hx)))
        go_roundg (E.length - (j + 1))
        case measure => omega
        case rel =>
          have hg : E[j].gone = false := by rw [← HXX.out]; exact HQ.out.symm
          refine ⟨j + 1, laid X (i * 22) (eArr x).toList, ?_, by go_num, by omega, ?_, Nat.le_refl _, hX4, by rw [laid_size]; exact HX.out, ?_, HO.out.trans hO5⟩
          · rw [live_take hlt, if_neg (by rw [hg]; simp), List.length_append, List.length_singleton, ← HI.out]; go_num
          · rw [live_take hlt, if_neg (by rw [hg]; simp), List.length_append, List.length_singleton, ← HI.out]; omega
          · have h := HC.out.put hlt hg
            rw [← HI.out, ← HXX.out] at h
            rw [laid_list _ _ _ (by rw [eArr_list]; exact hfi), eArr_list]
            exact h
      · go_wp2_with (first | ((with_reducible show wpList _ _ _ (⟨_, .load 245 _, _, _, _, _⟩ :: _) _ _); refine wpList_load_mid rfl 245 _ rfl g (j * 22) rfl ((eArr x).toList) _ HE.out Tryz.underlying245 rfl Tryz.size245 ?_) | ((with_reducible show wpList _ _ _ (⟨_, .alloc 245, _, _, _, _⟩ :: _) _ _); refine wpList_alloc_blk rfl 245 rfl e0 zero245 ?_; intro wa hR hL hs; clear hs; have hX1 := hX.next hL; have hXl := hX.lt) | ((with_reducible show wpList _ _ _ (⟨_, .store 245 _ _, _, _, _, _⟩ :: _) _ _); refine wpList_store_blk rfl 245 _ _ rfl wr.heap.size (eArr x) e0 245 rfl rfl hR Tryz.size245 (Eq.refl 22) (eArr_one _) ?_; intro wb hR2 hO2; have hX2 := hX1.only hO2 (by simp; omega); have hOb : Only [g] wr wb := (Only.of_below hL).then hO2 (fun x hx => .inr (by simp at hx; omega))) | (go_at_call 259; refine (c59x _).mono ?_; rintro e wc ⟨rfl, hbc⟩; have hR3 := hR2.next hbc; have hX3 := hX2.next hbc; have hO3 : Only [g] wr wc := hOb.trans (Only.of_below hbc)) | ((with_reducible show wpList _ _ _ (⟨_, .load 245 _, _, _, _, _⟩ :: _) _ _); refine wpList_load_blk rfl 245 _ rfl wr.heap.size rfl hR2 Tryz.row245 Tryz.size245 ?_))
        go_roundg (E.length - (j + 1))
        case measure => omega
        case rel =>
          have hg : E[j].gone = true := by rw [← HXX.out]; exact HQ.out.symm
          refine ⟨j + 1, X, ?_, by go_num, by omega, ?_, Nat.le_refl _, hX3, HX.out, HC.out.skip hlt hg, HO.out.trans hO3⟩
          · rw [live_take hlt, if_pos hg, ← HI.out]
          · rw [live_take hlt, if_pos hg, ← HI.out]; omega
    · obtain rfl : j = E.length := by omega
      have hI := HI.out
      rw [List.take_length] at hI
      subst hI
      have hfi : (live E).length * 22 + (E.length - (live E).length) * 22 ≤ X.size := by
        have h1 : E.length * 22 ≤ X.size := by simpa using HC.out.len
        have h2 := HS.out.2.2.2
        omega
      have hcc : ¬ cap - (live E).length = 0 := by
        have h1 := HS.out.2.2.1
        have h2 := HS.out.2.2.2
        omega
      go_wp2_with (first | ((with_reducible show wpList _ _ _ (⟨none, .call _, _, _, _, _⟩ :: _) _ _); refine wpList_clr rfl _ rfl g ((live E).length * 22) (E.length - (live E).length) (cap - (live E).length) X rfl hX (by have := HS.out.2.2.1; omega) hfi ?_; intro w9 X9 hX9 hs9 ht9 hO9))
      go_ret
      refine ⟨rfl, ⟨gAll_length _, .inr ⟨g, cap, X9, rfl, HG.out.1, hX9, by have h1 := HS.out.2.2.1; have h2 := HS.out.2.2.2; omega, HG.out.2.1, by rw [hs9]; exact HX.out, ?_⟩⟩, HO.out.trans hO9⟩
      rw [ht9]
      exact HC.out.done


end Go.Proofs.YtoalboilghgalaaGreatDoor

/- table.Compact. -/
namespace Go.Proofs.YtoalboilghgalaaGreatDoor
open Go.RowKit
open Go.Proofs.Dc (V Ds Ky)
attribute [local go_sem] run_store_float

theorem update_old_op {o : Oper} {a : Act} {W : World} {K : Act → World → Prop} {Q : Exit → Act → World → Prop} (m x y : Operand) (ho : o.op = .mapUpdate 227 m x y) {mb : Nat} {M : List (Ky × Nat)} (hm : MapIs W mb M) (k : Ky) (z : Nat × Nat)
    (hk : placeM M k = some z) (h1 : a.eval m = .map (some mb)) (h2 : a.eval x = .agg #[.string k.str, .int .i64 k.sym]) (n : Nat) (h3 : a.eval y = .int .i64 (n : Nat))
    (h : ∀ W', MapIs W' mb (setM M k n) → Only [mb] W W' → K (a.put o.dst undef) W') : o.wp Tryz.prog a W K Q := by
  obtain ⟨W', hr, hm', ho'⟩ := run_update_old hm k z hk n
  have hr' : (Instr.mapUpdate 227 (.map (some mb)) (.agg #[.string k.str, .int .i64 k.sym]) (.int .i64 (n : Nat))).run Tryz.prog W = .ok () W' := hr
  unfold Oper.wp execOp
  simp only [ho, h1, h2, h3, Sem.run_bind, hr', Result.andThen_ok, Sem.run_pure]
  exact h W' hm' ho'
theorem Tryz.size226 : (Tryz.prog.info? 226).map (·.size) = some 1 := by kernel_rfl
theorem store_at_run {P : Program} {W : World} (ty : TypeId) (b j : Nat) (C : Array Value) (t : TypeId) (v : Value) (hb : Blk W b C t) (hi : (P.info? ty).map (·.size) = some 1) (hj : j < C.size) (hC : v.cells = #[v]) (h1 : v.oneCell' = true) :
    ∃ W', (storeVar ty ⟨b, j, none⟩ v).run P W = .ok () W' ∧ Blk W' b (C.setIfInBounds j v) t ∧ Only [b] W W' := by
  have hw : storeVar ty ⟨b, j, none⟩ v = storeVar ty ⟨b, j, none⟩ (.agg #[v]) := by
    unfold storeVar
    rw [hC]
    rfl
  have hr := run_storeVar_mid (P := P) W b j ty #[v] (fun i hi' => by
    have hi0 : i = 0 := by simpa using hi'
    subst hi0
    exact ⟨by rw [hb.cell, Array.getElem?_eq_getElem (by omega)]; rfl, hb.frozen _⟩) hi (by simp [h1])
  have hn := only_setCells (vs := [v]) (o := j) hb
  exact ⟨_, by rw [hw]; exact hr, hn.1, hn.2⟩
theorem wpList_store_at {P : Program} {ops : Array Oper} {rest : List Oper} {o : Oper} {a : Act} {W : World} {Q : Exit → Act → World → Prop} (hgd : o.guard = none) (ty : TypeId) (x y : Operand) (ho : o.op = .store ty x y)
    (b j : Nat) (C : Array Value) (t : TypeId) (v : Value) (hx : a.eval x = .pointer (some ⟨b, j, none⟩)) (hy : a.eval y = v) (hb : Blk W b C t) (hi : (P.info? ty).map (·.size) = some 1) (hj : j < C.size) (hC : v.cells = #[v])
    (h1 : v.oneCell' = true) (h : ∀ W', Blk W' b (C.setIfInBounds j v) t → Only [b] W W' → wpList P ops Q rest (a.put o.dst undef) W') : wpList P ops Q (o :: rest) a W :=
  wpList_plain hgd fun _ hK => by
    obtain ⟨W', hr, h2, h3⟩ := store_at_run (P := P) ty b j C t v hb hi hj hC h1
    unfold Oper.wp execOp
    simp only [ho, hx, hy, Instr.storeAt, Instr.sureAddr, Sem.run_bind, Sem.run_pure, Result.andThen_ok, hr]
    exact hK _ _ (h _ h2 h3)
theorem range_key {W : World} {b : Nat} {x : GE} (h : Blk W b (eArr x) 245) : W.rangeAt b 0 [.string x.p.1.str, .int .i64 x.p.1.sym] := fun j v hv => by
  rw [h.cell, Nat.zero_add]
  match j, hv with
  | 0, hv => exact hv
  | 1, hv => exact hv
  | n + 2, hv => simp at hv
theorem find_mem : ∀ (E : List GE) (x : GE), x ∈ E → x.gone = false → findE E x.p.1 ≠ none
  | [], _, h, _ => by cases h
  | a :: r, x, h, hg => by
    rw [findE]
    split
    · simp
    · rename_i hc
      rcases List.mem_cons.1 h with rfl | h
      · exact absurd ⟨hg, keq_refl _⟩ hc
      · have := find_mem r x h hg
        cases e : findE r x.p.1 with
        | none => exact absurd e this
        | some i => simp
theorem GOk.relay_some {E : List GE} {M : List (Ky × Nat)} {last : Nat} (h : GOk E M last) (j : Nat) (hj : j < (live E).length) : ∃ y, placeM (relay M 0 ((live E).take j)) (live E)[j].p.1 = some y := by
  obtain ⟨hm, hg⟩ := live_mem.1 (List.getElem_mem hj)
  have h1 := find_mem E _ hm hg
  rw [← h.place] at h1
  cases e : placeM (relay M 0 ((live E).take j)) (live E)[j].p.1 with
  | some y => exact ⟨y, rfl⟩
  | none =>
    exfalso
    apply h1
    rw [Option.map_eq_none_iff, placeM_none]
    intro a ha
    have hk : a.1 ∈ (relay M 0 ((live E).take j)).map (·.1) := by rw [relay_keys]; exact List.mem_map_of_mem ha
    obtain ⟨b, hb, hba⟩ := List.mem_map.1 hk
    rw [← hba]
    exact placeM_none.1 e b hb

theorem compact_any (base : Nat) (tb mb : Nat) (ev : Value) (E : List GE) (M : List (Ky × Nat)) (last : Nat) (w : World) (hB : TabG base w tb ev mb E M last) (hlast : last ≤ 1000000) (hgap : (live E).length < E.length) :
    Calls Tryz.prog 255 #[.pointer (some ⟨tb, 0, none⟩)] w fun e w' => ∃ ev', e = .returned (.tuple #[]) ∧ TabG base w' tb ev' mb (live E) (relay M 0 (live E)) last ∧ Only [tb, mb] w w' := by
  have hle := hB.ok.len_le
  have hn0 : 0 < E.length := by omega
  have hNm : E.length ≤ 1000000 := by omega
  obtain ⟨g, cp, hev, hgb, hglt, hent⟩ := hB.entry hn0
  subst hev
  obtain ⟨hT, hrow, hmap, hok⟩ := hB
  have hbw : base ≤ w.heap.size := by omega
  have hlen := gAll_length E
  have hrc : ∀ j u, (gAll E)[j]? = some u → w.cell? ⟨g, j, none⟩ = some u := fun j u hu => by
    have hj := (List.getElem?_eq_some_iff.1 hu).1
    rw [hrow.cellAt j (by omega)]
    exact hu
  have c58 := clone_ent g cp E w hn0 hNm hrc hglt
  obtain ⟨F, hF⟩ : ∃ F, F = live E := ⟨_, rfl⟩
  have HOK := Lib.hid hok
  have HF := Lib.hid hF
  have HG := Lib.hid (And.intro hbw (And.intro hNm hgap))
  have hcB := hT.cellT
  have HM := Lib.hid hmap
  clear hent hrow hrc hok hle hn0 hlen hgb hF hgap hmap
  go_enter Tryz.func255, Tryz.ntmps255
  go_wp2_with (first
    | (go_at_call 258; refine c58.mono ?_; rintro e w1 ⟨g', cp', rfl, hown1, hb1⟩; have hT1 := hT.next hb1)
    | (go_at_call 257; refine (dfun_ent w.heap.size g' cp' E _ hown1 hNm HG.out.2.2).mono ?_; rintro e w2 ⟨rfl, hown2, hO2⟩; have hg'1 := hown1.lt g' rfl; have hT2 := hT1.only hO2 (by have := hT.lt; simp; omega); rw [← HF.out] at hown2 ⊢)
    | ((with_reducible show wpList _ _ _ (⟨_, .store 226 _ _, _, _, _, _⟩ :: _) _ _); refine wpList_store_at rfl 226 _ _ rfl tb 0 _ 229 _ rfl rfl hT2 Tryz.size226 (show 0 < 3 by decide) rfl rfl ?_; intro w3 hT3 hO3; have hcB3 := (show Blk w3 tb (tArr (.slice (some ⟨g', 0, none⟩) F.length cp') mb last) 229 from hT3).cellT; have hO3 := hO3))
  have hQ2 : Below w.heap.size w w2 := hb1.trans (hO2.below w.heap.size hb1.size (by simp; omega))
  have hQ3 : Only [tb] w w3 := (Only.of_below hQ2).trans hO3
  have hm0 := HM.out
  have hmne := hm0.ne hT
  have hm3 : MapIs w3 mb M := hm0.keep (hQ3.block mb hm0.lt (by simpa using hmne))
  have htb := hT.lt
  have hown3 := ownsRow_only hown2 hO3 (by intro q hq; simp [Value.ownBlock] at hq; simp; omega)
  have hQ4 : Only [tb, mb] w w3 := hQ3.mono (by simp)
  have hT3' : Blk w3 tb (tArr (.slice (some ⟨g', 0, none⟩) F.length cp') mb last) 229 := hT3
  have HNE := Lib.hid (And.intro hmne htb)
  have HG1 := Lib.hid hg'1
  have hbw1 := hb1.size
  have hbw2 := hO2.size
  have hFl : F.length ≤ 1000000 := by
    have h1 := HG.out.2.1
    have h2 := HG.out.2.2
    rw [← HF.out] at h2; omega
  clear hT1 hT2 hown1 hown2 hb1 hO2 hO3 hQ2 hQ3 hm0 hT3 hcB c58 hg'1
  go_loopg [18] F.length (fun fu s18 wr => ∃ j : Nat, s18 = .int .i64 (j : Nat) ∧ j ≤ F.length ∧ F.length - j ≤ fu ∧ Blk wr tb (tArr (.slice (some ⟨g', 0, none⟩) F.length cp') mb last) 229 ∧ MapIs wr mb (relay M 0 (F.take j)) ∧ wr.ownsRow w.heap.size 245 22 (.slice (some ⟨g', 0, none⟩) F.length cp') F.length (gAll F) ∧ Only [tb, mb] w wr)
  case atStart => exact ⟨0, rfl, Nat.zero_le _, by omega, hT3', hm3, hown3, hQ4⟩
  case round =>
    clear hT3' hm3 hown3 hQ4 hcB3
    obtain ⟨j, rfl, hj, hfu, hTr, hmr, hor, hQ⟩ := hrel
    have HQ := Lib.hid hQ
    have HOR := Lib.hid hor
    clear hQ
    by_cases hlt : j < F.length
    · have HE : Hid (wr.rangeAt g' (j * 22) (eArr F[j]).toList) := Lib.hid fun q v hv => by
        have hq : q < 22 := (List.getElem?_eq_some_iff.1 hv).1
        rw [hor.cellAt _ (by omega), gAll_get F j q hlt hq, ← eArr_list]
        exact hv
      obtain ⟨z, hz⟩ : ∃ z, placeM (relay M 0 (F.take j)) F[j].p.1 = some z := by
        have h := HOK.out.relay_some
        rw [← HF.out] at h
        exact h j hlt
      have hsn := relay_snoc (F.take j) M 0 F[j]
      rw [← List.take_succ_eq_append_getElem hlt, List.length_take, Nat.min_eq_left hj, Nat.zero_add] at hsn
      obtain ⟨x, hx⟩ : ∃ x, x = F[j] := ⟨_, rfl⟩
      rw [← hx] at HE hz hsn
      obtain ⟨k, hk⟩ : ∃ k, k = x.p.1 := ⟨_, rfl⟩
      rw [← hk] at hz hsn
      have HK := Lib.hid hk
      have HZ := Lib.hid hz
      have HSN := Lib.hid hsn
      have hj0 : (0 : Int) ≤ (j : Int) := by omega
      have hj1 : (j : Int) < (F.length : Int) := by omega
      have hgr := (hor.lt g' rfl).2
      have htr := hTr.lt
      have hmrl := hmr.lt
      have hmrn := hmr.ne hTr
      clear hz hsn hx hor hk
      go_wp2_with (first | ((with_reducible show wpList _ _ _ (⟨_, .load 245 _, _, _, _, _⟩ :: _) _ _); refine wpList_load_mid rfl 245 _ rfl g' (j * 22) rfl ((eArr x).toList) _ HE.out Tryz.underlying245 rfl Tryz.size245 ?_) | ((with_reducible show wpList _ _ _ (⟨_, .alloc 245, _, _, _, _⟩ :: _) _ _); refine wpList_alloc_blk rfl 245 rfl e0 zero245 ?_; intro wa hR hL hs; clear hs; have hTa := hTr.next hL; have hma := hmr.keep (hL.block mb hmrl)) | ((with_reducible show wpList _ _ _ (⟨_, .store 245 _ _, _, _, _, _⟩ :: _) _ _); refine wpList_store_blk rfl 245 _ _ rfl wr.heap.size (eArr x) e0 245 rfl rfl hR Tryz.size245 (Eq.refl 22) (eArr_one _) ?_; intro wb hR2 hO2; have hTb := hTa.only hO2 (by simp; omega); have hmb := hma.keep (hO2.block mb hma.lt (by simp; omega)); have hcTb := hTb.cellT; have hkr := range_key hR2; rw [← HK.out] at hkr))
      try simp only [Act.put]
      refine Ord.region (fun W => W.cell? ⟨tb, 1, none⟩ = some (.map (some mb)) ∧ W.rangeAt wr.heap.size 0 [.string k.str, .int .i64 k.sym]) [] (by kernel_rfl) ⟨hcTb 1, hkr⟩ ?_
      intro hS
      refine Ord.tp 0 23 rfl rfl ?_
      refine Ord.tp 1 24 rfl rfl ?_
      refine Ord.tp 2 25 rfl rfl ?_
      refine Ord.tp 3 26 rfl rfl ?_
      refine Ord.tp 4 27 rfl rfl ?_
      refine Ord.tp 5 28 rfl rfl ?_
      refine Ord.tk 6 29 rfl rfl (yieldsIf_load_mid (by rfl) 40 _ rfl wr.heap.size 0 rfl [.string k.str, .int .i64 k.sym] _ (fun W hSW => hSW.2) Tryz.underlying40 rfl Tryz.size40) ?_
      refine Ord.tp 7 30 rfl rfl ?_
      refine Ord.step (i := 8) rfl (by kernel_rfl) (by rfl) ?_
      intro K HK
      refine update_old_op (.tmp 26) (.tmp 29) (.tmp 30) rfl (hm := (show MapIs wb.drew mb (relay M 0 (F.take j)) from hmb)) (k := k) (z := z) (hk := HZ.out) (by rfl) (by rfl) (n := j) (by rfl) ?_
      intro w5 hm5 hO5
      refine HK.out _ _ ?_
      clear HK
      refine ⟨Ord.np (by kernel_rfl), ?_⟩
      try simp only [List.setIfInBounds_toArray, List.set_cons_zero, List.set_cons_succ]
      refine Ord.done (by kernel_rfl) ?_ _
      clear hS hkr
      have hO5' : Only [mb] wb w5 := only_drew hO5
      have hT5 := hTb.only hO5' (by simpa using hmrn.symm)
      have hOab : Only [tb, mb] wr wb := (Only.of_below hL).then hO2 (fun q hq => .inr (by simp at hq; omega))
      have hOc : Only [tb, mb] wr w5 := hOab.then hO5' (fun q hq => .inl (by simp at hq ⊢; exact .inr hq))
      have hor5 := ownsRow_only (ownsRow_only (ownsRow_only HOR.out (Only.of_below (S := []) hL) (by simp)) hO2 (by intro q hq; simp [Value.ownBlock] at hq; simp; omega)) hO5' (by
        intro q hq
        have h := ownsRow_nmap HOR.out hmr q hq
        simpa using h)
      clear hO5 hO5' hOab hO2 hcTb
      go_wp2
      go_roundg (F.length - (j + 1))
      case measure => omega
      case rel => exact ⟨j + 1, by go_num, by omega, Nat.le_refl _, hT5, by rw [HSN.out]; exact hm5, hor5, HQ.out.trans hOc⟩
    · have hje : j = F.length := by omega
      subst hje
      rw [List.take_length] at hmr
      go_wp2
      go_end0
      rw [← HF.out]
      exact ⟨_, rfl, ⟨hTr, ⟨hor.1, hor.2.imp id (by rintro ⟨a, c, cur, h1, h2, h3⟩; exact ⟨a, c, cur, h1, Nat.le_trans HG.out.1 h2, h3⟩)⟩, hmr, by have h := HOK.out.compact; rw [← HF.out] at h; exact h⟩, HQ.out⟩


end Go.Proofs.YtoalboilghgalaaGreatDoor

/- table.Delete. -/
namespace Go.Proofs.YtoalboilghgalaaGreatDoor
open Go.RowKit
open Go.Proofs.Dc (V Ds Ky)
attribute [local go_sem] run_store_float

theorem delete_op {o : Oper} {a : Act} {W : World} {K : Act → World → Prop} {Q : Exit → Act → World → Prop} (m x : Operand) (ho : o.op = .call { callee := .builtin .delete, args := #[m, x], argTypes := #[227, 40] }) {mb : Nat} {M : List (Ky × Nat)} (hm : MapIs W mb M) (k : Ky) (z : Nat × Nat)
    (hk : placeM M k = some z) (h1 : a.eval m = .map (some mb)) (h2 : a.eval x = .agg #[.string k.str, .int .i64 k.sym])
    (h : ∀ W', MapIs W' mb (M.eraseIdx z.1) → Only [mb] W W' → K (a.put o.dst (.tuple #[])) W') : o.wp Tryz.prog a W K Q := by
  obtain ⟨W', hr, hm', ho'⟩ := run_delete_k o.type hm k z hk
  have hr' : (Builtin.delete_ #[227, 40] o.type #[.map (some mb), .agg #[.string k.str, .int .i64 k.sym]]).run Tryz.prog W = .ok (.tuple #[]) W' := hr
  unfold Oper.wp execOp
  simp only [ho, resolve, invoke, builtin, Sem.run_bind, Sem.run_pure, Result.andThen_ok, List.map_toArray, List.map_cons, List.map_nil, h1, h2, hr']
  exact h W' hm' ho'
/-- a property that is none -/
def z20 : Array Value := #[.string ⟨#[]⟩, .int .i64 0, .int .i64 0, .bool false, .float .f64 0, .string ⟨#[]⟩, .int .i64 0, .int .i64 0, .bool false, .float .f64 0, .string ⟨#[]⟩, .int .i64 0, .int .i64 0, .bool false, .float .f64 0, .string ⟨#[]⟩, .int .i64 0, .int .i64 0, .int .i64 0, .int .i64 0]
theorem z20_one : z20.all (·.oneCell') = true := by kernel_rfl
theorem gap_cells (n : Nat) : gCells ⟨gapP, n, true⟩ = z20.toList ++ [.int .u64 (n : Nat), .bool true] := rfl
theorem Tryz.size45 : (Tryz.prog.info? 45).map (·.size) = some 20 := by kernel_rfl
theorem Tryz.size4 : (Tryz.prog.info? 4).map (·.size) = some 1 := by kernel_rfl
theorem app3 (A Z D : List Value) (p s z : Nat) (hA : A.length = s) (hZ : Z.length = z) : (A ++ Z ++ D)[p]? = if p < s then A[p]? else if p < s + z then Z[p - s]? else D[p - s - z]? := by
  by_cases h1 : p < s
  · rw [if_pos h1, List.append_assoc, List.getElem?_append_left (by omega)]
  · rw [if_neg h1, List.append_assoc, List.getElem?_append_right (by omega), hA]
    by_cases h2 : p < s + z
    · rw [if_pos h2, List.getElem?_append_left (by omega)]
    · rw [if_neg h2, List.getElem?_append_right (by omega), hZ]
theorem gap_laid (E : List GE) (i : Nat) (hi : i < E.length) (cur : Array Value) (hs : E.length * 22 ≤ cur.size) (ht : cur.toList.take (E.length * 22) = gAll E) :
    (laid (cur.setIfInBounds (i * 22 + 21) (.bool true)) (i * 22) z20.toList).toList.take (E.length * 22) = gAll (E.set i ⟨gapP, E[i].n, true⟩) := by
  have h20 : z20.toList.length = 20 := rfl
  rw [gAll_set E i hi, gap_cells, ← ht, laid_list _ _ _ (by rw [h20, Array.size_setIfInBounds]; omega), h20, Array.toList_setIfInBounds]
  have hn : cur.toList[i * 22 + 20]? = some (.int .u64 (E[i].n : Nat)) := by
    have h := gAll_get E i 20 hi (by omega)
    rw [← ht, List.getElem?_take_of_lt (by omega)] at h
    exact h
  have hl : cur.toList.length = cur.size := by simp
  generalize z20.toList = Z at h20 ⊢
  generalize cur.toList = xs at hl hn ht ⊢
  have hN : i * 22 + 22 ≤ E.length * 22 := by omega
  generalize E.length * 22 = N at hs hN ⊢
  generalize i * 22 = s at hn hN ⊢
  generalize (E[i].n : Int) = nn at hn ⊢
  apply List.ext_getElem?
  intro p
  rw [List.getElem?_take]
  by_cases hp : p < N
  · rw [if_pos hp, app3 _ _ _ p s 20 (by rw [List.length_take, List.length_set]; omega) h20, app3 _ _ _ p s 22 (by rw [List.length_take, List.length_take]; omega) (by rw [List.length_append, h20]; rfl)]
    by_cases h1 : p < s
    · rw [if_pos h1, if_pos h1, List.getElem?_take_of_lt h1, List.getElem?_take_of_lt h1, List.getElem?_set_ne (by omega), List.getElem?_take_of_lt hp]
    · rw [if_neg h1, if_neg h1]
      by_cases h2 : p < s + 20
      · rw [if_pos h2, if_pos (by omega), List.getElem?_append_left (by omega)]
      · rw [if_neg h2, List.getElem?_drop, show s + 20 + (p - s - 20) = p by omega]
        by_cases h3 : p = s + 20
        · subst h3
          rw [List.getElem?_set_ne (by omega), hn, if_pos (by omega), List.getElem?_append_right (by omega), h20, show s + 20 - s - 20 = 0 by omega]
          rfl
        · by_cases h4 : p = s + 21
          · subst h4
            rw [List.getElem?_set_self (by omega), if_pos (by omega), List.getElem?_append_right (by omega), h20, show s + 21 - s - 20 = 1 by omega]
            rfl
          · rw [List.getElem?_set_ne (by omega), if_neg (by omega), List.getElem?_drop, show s + 22 + (p - s - 22) = p by omega, List.getElem?_take_of_lt hp]
  · rw [if_neg hp, List.getElem?_eq_none]
    simp only [List.length_append, List.length_take, List.length_drop, List.length_cons, List.length_nil, h20]; omega

/-- what Delete leaves of a table -/
def DelPost (base : Nat) (k : Ky) (tb mb : Nat) (ev : Value) (E : List GE) (last : Nat) (w : World) (e : Ending) (w' : World) : Prop :=
  ∃ ev' E' M', e = .returned (.bool true) ∧ TabG base w' tb ev' mb E' M' last ∧ liveP E' = delL (liveP E) k ∧ Only (tb :: mb :: ev.ownBlock.toList) w w'
theorem tdel_some (base : Nat) (k : Ky) (tb mb : Nat) (ev : Value) (E : List GE) (M : List (Ky × Nat)) (last : Nat) (w : World) (hB : TabG base w tb ev mb E M last) (hlast : last ≤ 1000000) (i : Nat) (hi : i < E.length) (hk : findE E k = some i) :
    Calls Tryz.prog 250 #[.pointer (some ⟨tb, 0, none⟩), .agg (kArr k)] w (DelPost base k tb mb ev E last w) := by
  have hle := hB.ok.len_le
  obtain ⟨hT, hrow, hmap, hok⟩ := hB
  obtain ⟨g, cp, cur, rfl, hbg, hgB, hsz, htk⟩ := row_cur hrow (by omega)
  have hlk : ∀ W, MapIs W mb M → (Instr.lookup 227 (.map (some mb)) (.agg #[.string k.str, .int .i64 k.sym]) true).run Tryz.prog W = .ok (.tuple #[.int .i64 (i : Int), .bool true]) W := fun W h => by
    have := lookup_any h k
    rw [hok.place, hk] at this
    simpa using this
  obtain ⟨j, hpl⟩ : ∃ j, placeM M k = some (j, i) := by
    have h := hok.place k
    rw [hk] at h
    cases e : placeM M k with
    | none => rw [e] at h; cases h
    | some z => rw [e] at h; simp only [Option.map_some, Option.some.injEq] at h; exact ⟨z.1, by rw [← h]⟩
  have hd1 := hok.del hi hpl
  have hd2 := liveP_del E k i hi hk
  have hd3 := live_del_len E i hi (findE_at hk).1
  have hd4 := live_len E
  obtain ⟨E1, hE1⟩ : ∃ E1, E1 = E.set i ⟨gapP, E[i].n, true⟩ := ⟨_, rfl⟩
  have hln : E1.length = E.length := by rw [hE1, List.length_set]
  have hga := gap_laid E i hi cur hsz htk
  rw [← hE1] at hd1 hd2 hd3 hga
  have HD := Lib.hid (And.intro hd1 (And.intro hd2 hd3))
  have HP := Lib.hid hpl
  have HR := Lib.hid (And.intro hrow (And.intro hsz hga))
  have HB := Lib.hid (And.intro hlast (And.intro hle hd4))
  clear hok hk hd1 hd2 hd3 hd4 hpl hrow htk hga hsz hE1 hle hlast
  go_enter Tryz.func250, Tryz.ntmps250
  go_wp2_with ((with_reducible show wpList _ _ _ (⟨_, .box 40 _, _, _, _, _⟩ :: _) _ _); refine wpList_box_blk rfl 40 _ rfl (kArr k) rfl ?_; intro w0 hK hL hs0; clear hs0; have hcK := hK.cellK; have hT0 := hT.next hL; have hcB := hT0.cellT; have hm0 := hmap.keep (hL.block mb hmap.lt))
  try simp only [Act.put]
  refine Ord.region (fun W => (((W.cell? ⟨tb, 1, none⟩ = some (.map (some mb)) ∧ W.cell? ⟨w.heap.size, 0, none⟩ = some (.string k.str)) ∧ W.cell? ⟨w.heap.size, 1, none⟩ = some (.int .i64 k.sym)) ∧ MapIs W mb M)) [7, 8, 9, 10] (by kernel_rfl) ⟨⟨⟨hcB 1, hcK 0⟩, hcK 1⟩, hm0⟩ ?_
  intro hS
  refine Ord.tp 0 8 rfl rfl ?_
  refine Ord.tp 1 9 rfl rfl ?_
  refine Ord.tp 2 10 rfl rfl ?_
  refine Ord.tp 3 11 rfl rfl ?_
  refine Ord.tp 4 12 rfl rfl ?_
  refine Ord.tp 5 13 rfl rfl ?_
  refine Ord.step (i := 6) rfl (by kernel_rfl) (by rfl) ?_
  intro K HK
  go_simp
  refine HK.out _ _ ?_
  clear HK
  refine ⟨Ord.np (by kernel_rfl), ?_⟩
  try simp only [List.setIfInBounds_toArray, List.set_cons_zero, List.set_cons_succ]
  refine Ord.tf 7 14 rfl rfl ?_
  refine Ord.tf 8 15 rfl rfl ?_
  refine Ord.tf 9 5 rfl rfl ?_
  refine Ord.tf 10 6 rfl rfl ?_
  refine Ord.done (by kernel_rfl) ?_ _
  clear hS
  go_wp2
  try simp only [Act.put]
  refine Ord.region (fun W => (((W.cell? ⟨tb, 1, none⟩ = some (.map (some mb)) ∧ W.cell? ⟨w.heap.size, 0, none⟩ = some (.string k.str)) ∧ W.cell? ⟨w.heap.size, 1, none⟩ = some (.int .i64 k.sym)) ∧ MapIs W mb M)) [] (by kernel_rfl) ⟨⟨⟨hcB 1, hcK 0⟩, hcK 1⟩, hm0⟩ ?_
  intro hS
  refine Ord.tp 0 18 rfl rfl ?_
  refine Ord.tp 1 19 rfl rfl ?_
  refine Ord.tp 2 20 rfl rfl ?_
  refine Ord.tp 3 21 rfl rfl ?_
  refine Ord.tp 4 22 rfl rfl ?_
  refine Ord.step (i := 5) rfl (by kernel_rfl) (by rfl) ?_
  intro K HK
  refine delete_op (.tmp 21) (.tmp 22) rfl (hm := (show MapIs w0.drew.drew mb M from hm0)) (k := k) (z := (j, i)) (hk := HP.out) (by rfl) (by rfl) ?_
  intro w1 hm1 hO1
  refine HK.out _ _ ?_
  clear HK
  refine ⟨Ord.np (by kernel_rfl), ?_⟩
  try simp only [List.setIfInBounds_toArray, List.set_cons_zero, List.set_cons_succ]
  refine Ord.done (by kernel_rfl) ?_ _
  clear hS hlk hcB hcK
  have hmT := hmap.ne hT
  have hmg := hmap.ne hgB
  have htl := hT.lt
  have hTg : tb ≠ g := hT.ne hgB (by decide)
  have hO1' : Only [mb] w0 w1 := only_drew (only_drew hO1)
  have hT1 := hT0.only hO1' (by simpa using hmT.symm)
  have hg1 := (hgB.next hL).only hO1' (by simpa using hmg.symm)
  have hcB1 := hT1.cellT
  have hi0 : (0 : Int) ≤ (i : Int) := by omega
  have hi1 : (i : Int) < (E.length : Int) := by omega
  have hcs := HR.out.2.1
  have hf1 : i * 22 + 21 < cur.size := by omega
  have hf2 : i * 22 + z20.size ≤ (cur.setIfInBounds (i * 22 + 21) (.bool true)).size := by rw [Array.size_setIfInBounds]; show i * 22 + 20 ≤ _; omega
  clear hO1 hcs
  go_wp2_with (first | ((with_reducible show wpList _ _ _ (⟨_, .store 4 _ _, _, _, _, _⟩ :: _) _ _); refine wpList_store_at rfl 4 _ _ rfl g (i * 22 + 21) cur 245 (.bool true) rfl rfl hg1 Tryz.size4 hf1 rfl rfl ?_; intro w2 hg2 hO2; have hT2 := hT1.only hO2 (by simpa using hTg); have hcB2 := hT2.cellT; have hm2 := hm1.keep (hO2.block mb hm1.lt (by simpa using hmg))) | ((with_reducible show wpList _ _ _ (⟨_, .store 45 _ _, _, _, _, _⟩ :: _) _ _); refine wpList_store_part rfl 45 _ _ rfl g (i * 22) z20 _ 245 rfl rfl hg2 Tryz.size45 hf2 z20_one ?_; intro w3 hg3 hO3; have hT3 := hT2.only hO3 (by simpa using hTg); have hcB3 := hT3.cellT; have hm3 := hm2.keep (hO3.block mb hm2.lt (by simpa using hmg))))
  have hrow3 : w3.ownsRow base 245 22 (.slice (some ⟨g, 0, none⟩) E1.length cp) E1.length (gAll E1) := by
    obtain ⟨h1, h2⟩ := HR.out.1
    refine ⟨gAll_length _, .inr ?_⟩
    rcases h2 with ⟨h2, _⟩ | ⟨g', cap, cur', hv, hb, hh, hn, hc, hsz, _⟩
    · cases h2
    · simp only [Value.slice.injEq, Option.some.injEq, Addr.mk.injEq] at hv
      obtain ⟨⟨rfl, _⟩, _, rfl⟩ := hv
      have e : cur' = cur := by
        have := hgB; unfold Blk at this; rw [hh] at this; simpa using this
      subst e
      exact ⟨g, cp, _, rfl, hb, hg3, by rw [hln]; exact hn, hc, by rw [laid_size, Array.size_setIfInBounds]; exact hsz, by rw [hln]; exact HR.out.2.2⟩
  have hO13 : Only [tb, mb, g] w w3 := (((Only.of_below hL).trans (hO1'.mono (by simp))).trans (hO2.mono (by simp))).trans (hO3.mono (by simp))
  have HO := Lib.hid hO13
  have HOD := Lib.hid (show Only (tb :: mb :: (Value.slice (some ⟨g, 0, none⟩) E.length cp).ownBlock.toList) w w3.drew from (hO13.mono (S' := tb :: mb :: (Value.slice (some ⟨g, 0, none⟩) E.length cp).ownBlock.toList) (by simp [Value.ownBlock])).trans (Only.of_below (Below.refl _ _).drew))
  have hG3 : TabG base w3.drew tb (.slice (some ⟨g, 0, none⟩) E1.length cp) mb E1 (M.eraseIdx j) last := ⟨by rw [hln]; exact hT3, hrow3, hm3, HD.out.1⟩
  have HG := Lib.hid hG3
  clear hrow3 hO13 hg3 hO3 hO2 hg2 hT2 hcB2 hm2 hm1 hT1 hg1 hcB1 hO1' hm0 hT0
  obtain ⟨n1, hn1⟩ : ∃ n1, n1 = (M.eraseIdx j).length := ⟨_, rfl⟩
  have HN := Lib.hid hn1
  have hn1s : n1 ≤ 1000000 := by
    have h := HD.out.1.len
    rw [← hn1] at h
    have h2 := HD.out.2.2
    have h3 := HB.out
    omega
  clear hn1 hG3
  have hEs : E.length ≤ 1000000 := by have h3 := HB.out; omega
  have hgap : (live E1).length < E1.length := by have h3 := HD.out.2.2; have h4 := HB.out.2.2; omega
  have HGp := Lib.hid hgap
  clear hgap
  have hwr : IntKind.i64.wrap (2 * (n1 : Int)) = 2 * (n1 : Int) := by unfold IntKind.wrap; simp [IntKind.signed, IntKind.bits]; omega
  by_cases h16 : (16 : Int) < (E.length : Int)
  · by_cases h2 : 2 * (n1 : Int) < (E.length : Int)
    · have h2' : 2 * (n1 : Int) < (E.length : Int) := h2
      refine Ord.region (fun W => (W.cell? ⟨tb, 0, none⟩ = some (.slice (some ⟨g, 0, none⟩) E.length cp) ∧ W.cell? ⟨tb, 1, none⟩ = some (.map (some mb))) ∧ MapIs W mb (M.eraseIdx j)) [19] (by kernel_rfl) ⟨⟨hcB3 0, hcB3 1⟩, hm3⟩ ?_
      intro hS
      refine Ord.tp 0 38 rfl rfl ?_
      refine Ord.tp 1 39 rfl rfl ?_
      refine Ord.tp 2 40 rfl rfl ?_
      refine Ord.tp 3 41 rfl rfl ?_
      refine Ord.tp 4 42 rfl rfl ?_
      refine Ord.tp 5 43 rfl rfl ?_
      refine Ord.tp 6 44 rfl rfl ?_
      refine Ord.tp 7 45 rfl rfl ?_
      refine Ord.tp 8 46 rfl rfl ?_
      refine Ord.tp 9 47 rfl rfl ?_
      refine Ord.tp 10 48 rfl rfl ?_
      refine Ord.take (i := 11) (v := ?_) 49 rfl rfl (by kernel_rfl) (by kernel_rfl) (by kernel_rfl) (by kernel_rfl) (fun _ _ _ h => h) (by assumption) (Or.inl ⟨by rfl, ?_⟩) ?_
      rotate_left
      · (intro W hSW; first | (with_reducible rfl) | (have hl := fun ty => run_len_k hSW.2 ty; rw [← HN.out] at hl; go_simp; done) | (have hl := fun ty => run_len_k hSW.2 ty; rw [← HN.out] at hl; go_simp; with_reducible rfl))
      try simp only [List.setIfInBounds_toArray, List.set_cons_zero, List.set_cons_succ]
      refine Ord.tp 12 50 rfl rfl ?_
      refine Ord.tp 13 51 rfl rfl ?_
      refine Ord.tp 14 52 rfl rfl ?_
      refine Ord.tp 15 53 rfl rfl ?_
      refine Ord.tp 16 54 rfl rfl ?_
      refine Ord.step (i := 17) rfl (by kernel_rfl) (by rfl) ?_
      intro K HK
      go_simp
      refine HK.out _ _ ?_
      clear HK
      refine Ord.kp ?_ ?_
      · exact hS
      clear hS
      intro hS
      try simp only [List.setIfInBounds_toArray, List.set_cons_zero, List.set_cons_succ]
      refine Ord.step (i := 18) rfl (by kernel_rfl) (by rfl) ?_
      intro K HK
      go_simp
      refine HK.out _ _ ?_
      clear HK
      refine ⟨Ord.np (by kernel_rfl), ?_⟩
      try simp only [List.setIfInBounds_toArray, List.set_cons_zero, List.set_cons_succ]
      refine Ord.tf 19 57 rfl rfl ?_
      refine Ord.done (by kernel_rfl) ?_ _
      clear hS
      go_wp2_with (go_at_call 255; refine (compact_any base tb mb _ E1 _ last _ (show TabG base _ tb _ mb E1 _ last from HG.out) HB.out.1 HGp.out).mono ?_; rintro e w5 ⟨ev', rfl, hG5, hO5⟩)
      go_ret
      exact ⟨ev', _, _, rfl, hG5, by rw [← HD.out.2.1]; unfold liveP; rw [live_live], (HO.out.trans ((only_drew hO5).mono (by simp))).mono (by simp [Value.ownBlock])⟩
    · have h2' : (E.length : Int) ≤ 2 * (n1 : Int) := by omega
      refine Ord.region (fun W => (W.cell? ⟨tb, 0, none⟩ = some (.slice (some ⟨g, 0, none⟩) E.length cp) ∧ W.cell? ⟨tb, 1, none⟩ = some (.map (some mb))) ∧ MapIs W mb (M.eraseIdx j)) [19] (by kernel_rfl) ⟨⟨hcB3 0, hcB3 1⟩, hm3⟩ ?_
      intro hS
      refine Ord.tp 0 38 rfl rfl ?_
      refine Ord.tp 1 39 rfl rfl ?_
      refine Ord.tp 2 40 rfl rfl ?_
      refine Ord.tp 3 41 rfl rfl ?_
      refine Ord.tp 4 42 rfl rfl ?_
      refine Ord.tp 5 43 rfl rfl ?_
      refine Ord.tp 6 44 rfl rfl ?_
      refine Ord.tp 7 45 rfl rfl ?_
      refine Ord.tp 8 46 rfl rfl ?_
      refine Ord.tp 9 47 rfl rfl ?_
      refine Ord.tp 10 48 rfl rfl ?_
      refine Ord.take (i := 11) (v := ?_) 49 rfl rfl (by kernel_rfl) (by kernel_rfl) (by kernel_rfl) (by kernel_rfl) (fun _ _ _ h => h) (by assumption) (Or.inl ⟨by rfl, ?_⟩) ?_
      rotate_left
      · (intro W hSW; first | (with_reducible rfl) | (have hl := fun ty => run_len_k hSW.2 ty; rw [← HN.out] at hl; go_simp; done) | (have hl := fun ty => run_len_k hSW.2 ty; rw [← HN.out] at hl; go_simp; with_reducible rfl))
      try simp only [List.setIfInBounds_toArray, List.set_cons_zero, List.set_cons_succ]
      refine Ord.tp 12 50 rfl rfl ?_
      refine Ord.tp 13 51 rfl rfl ?_
      refine Ord.tp 14 52 rfl rfl ?_
      refine Ord.tp 15 53 rfl rfl ?_
      refine Ord.tp 16 54 rfl rfl ?_
      refine Ord.step (i := 17) rfl (by kernel_rfl) (by rfl) ?_
      intro K HK
      go_simp
      refine HK.out _ _ ?_
      clear HK
      refine Ord.kp ?_ ?_
      · exact hS
      clear hS
      intro hS
      try simp only [List.setIfInBounds_toArray, List.set_cons_zero, List.set_cons_succ]
      refine Ord.step (i := 18) rfl (by kernel_rfl) (by rfl) ?_
      intro K HK
      go_simp
      refine HK.out _ _ ?_
      clear HK
      refine ⟨Ord.np (by kernel_rfl), ?_⟩
      try simp only [List.setIfInBounds_toArray, List.set_cons_zero, List.set_cons_succ]
      refine Ord.tf 19 57 rfl rfl ?_
      refine Ord.done (by kernel_rfl) ?_ _
      clear hS
      go_wp2
      go_ret
      exact ⟨_, _, _, rfl, HG.out, HD.out.2.1, HOD.out⟩
  · have h16' : (E.length : Int) ≤ 16 := by omega
    refine Ord.region (fun W => (W.cell? ⟨tb, 0, none⟩ = some (.slice (some ⟨g, 0, none⟩) E.length cp) ∧ W.cell? ⟨tb, 1, none⟩ = some (.map (some mb))) ∧ MapIs W mb (M.eraseIdx j)) [5, 6, 7, 8, 9, 10, 11, 12, 13, 14, 15, 16, 17, 18, 19] (by kernel_rfl) ⟨⟨hcB3 0, hcB3 1⟩, hm3⟩ ?_
    intro hS
    refine Ord.tp 0 38 rfl rfl ?_
    refine Ord.tp 1 39 rfl rfl ?_
    refine Ord.tp 2 40 rfl rfl ?_
    refine Ord.tp 3 41 rfl rfl ?_
    refine Ord.step (i := 4) rfl (by kernel_rfl) (by rfl) ?_
    intro K HK
    go_simp
    refine HK.out _ _ ?_
    clear HK
    refine ⟨Ord.np (by kernel_rfl), ?_⟩
    try simp only [List.setIfInBounds_toArray, List.set_cons_zero, List.set_cons_succ]
    refine Ord.tf 5 43 rfl rfl ?_
    refine Ord.tf 6 44 rfl rfl ?_
    refine Ord.take_free (i := 7) (v := undef) 45 rfl rfl (by kernel_rfl) (by kernel_rfl) (by kernel_rfl) (by kernel_rfl) (fun _ _ _ h => h) (by first | (intro _; assumption) | exact Ord.no_pend (S := fun W => (W.cell? ⟨tb, 0, none⟩ = some (.slice (some ⟨g, 0, none⟩) E.length cp) ∧ W.cell? ⟨tb, 1, none⟩ = some (.map (some mb))) ∧ MapIs W mb (M.eraseIdx j)) (by kernel_rfl)) (Or.inr ⟨by rfl, rfl⟩) ?_
    try simp only [List.setIfInBounds_toArray, List.set_cons_zero, List.set_cons_succ]
    refine Ord.take_free (i := 8) (v := undef) 46 rfl rfl (by kernel_rfl) (by kernel_rfl) (by kernel_rfl) (by kernel_rfl) (fun _ _ _ h => h) (by first | (intro _; assumption) | exact Ord.no_pend (S := fun W => (W.cell? ⟨tb, 0, none⟩ = some (.slice (some ⟨g, 0, none⟩) E.length cp) ∧ W.cell? ⟨tb, 1, none⟩ = some (.map (some mb))) ∧ MapIs W mb (M.eraseIdx j)) (by kernel_rfl)) (Or.inr ⟨by rfl, rfl⟩) ?_
    try simp only [List.setIfInBounds_toArray, List.set_cons_zero, List.set_cons_succ]
    refine Ord.take_free (i := 9) (v := undef) 47 rfl rfl (by kernel_rfl) (by kernel_rfl) (by kernel_rfl) (by kernel_rfl) (fun _ _ _ h => h) (by first | (intro _; assumption) | exact Ord.no_pend (S := fun W => (W.cell? ⟨tb, 0, none⟩ = some (.slice (some ⟨g, 0, none⟩) E.length cp) ∧ W.cell? ⟨tb, 1, none⟩ = some (.map (some mb))) ∧ MapIs W mb (M.eraseIdx j)) (by kernel_rfl)) (Or.inr ⟨by rfl, rfl⟩) ?_
    try simp only [List.setIfInBounds_toArray, List.set_cons_zero, List.set_cons_succ]
    refine Ord.take_free (i := 10) (v := undef) 48 rfl rfl (by kernel_rfl) (by kernel_rfl) (by kernel_rfl) (by kernel_rfl) (fun _ _ _ h => h) (by first | (intro _; assumption) | exact Ord.no_pend (S := fun W => (W.cell? ⟨tb, 0, none⟩ = some (.slice (some ⟨g, 0, none⟩) E.length cp) ∧ W.cell? ⟨tb, 1, none⟩ = some (.map (some mb))) ∧ MapIs W mb (M.eraseIdx j)) (by kernel_rfl)) (Or.inr ⟨by rfl, rfl⟩) ?_
    try simp only [List.setIfInBounds_toArray, List.set_cons_zero, List.set_cons_succ]
    refine Ord.take_free (i := 11) (v := undef) 49 rfl rfl (by kernel_rfl) (by kernel_rfl) (by kernel_rfl) (by kernel_rfl) (fun _ _ _ h => h) (by first | (intro _; assumption) | exact Ord.no_pend (S := fun W => (W.cell? ⟨tb, 0, none⟩ = some (.slice (some ⟨g, 0, none⟩) E.length cp) ∧ W.cell? ⟨tb, 1, none⟩ = some (.map (some mb))) ∧ MapIs W mb (M.eraseIdx j)) (by kernel_rfl)) (Or.inr ⟨by rfl, rfl⟩) ?_
    try simp only [List.setIfInBounds_toArray, List.set_cons_zero, List.set_cons_succ]
    refine Ord.take_free (i := 12) (v := undef) 50 rfl rfl (by kernel_rfl) (by kernel_rfl) (by kernel_rfl) (by kernel_rfl) (fun _ _ _ h => h) (by first | (intro _; assumption) | exact Ord.no_pend (S := fun W => (W.cell? ⟨tb, 0, none⟩ = some (.slice (some ⟨g, 0, none⟩) E.length cp) ∧ W.cell? ⟨tb, 1, none⟩ = some (.map (some mb))) ∧ MapIs W mb (M.eraseIdx j)) (by kernel_rfl)) (Or.inr ⟨by rfl, rfl⟩) ?_
    try simp only [List.setIfInBounds_toArray, List.set_cons_zero, List.set_cons_succ]
    refine Ord.take_free (i := 13) (v := undef) 51 rfl rfl (by kernel_rfl) (by kernel_rfl) (by kernel_rfl) (by kernel_rfl) (fun _ _ _ h => h) (by first | (intro _; assumption) | exact Ord.no_pend (S := fun W => (W.cell? ⟨tb, 0, none⟩ = some (.slice (some ⟨g, 0, none⟩) E.length cp) ∧ W.cell? ⟨tb, 1, none⟩ = some (.map (some mb))) ∧ MapIs W mb (M.eraseIdx j)) (by kernel_rfl)) (Or.inr ⟨by rfl, rfl⟩) ?_
    try simp only [List.setIfInBounds_toArray, List.set_cons_zero, List.set_cons_succ]
    refine Ord.take_free (i := 14) (v := undef) 52 rfl rfl (by kernel_rfl) (by kernel_rfl) (by kernel_rfl) (by kernel_rfl) (fun _ _ _ h => h) (by first | (intro _; assumption) | exact Ord.no_pend (S := fun W => (W.cell? ⟨tb, 0, none⟩ = some (.slice (some ⟨g, 0, none⟩) E.length cp) ∧ W.cell? ⟨tb, 1, none⟩ = some (.map (some mb))) ∧ MapIs W mb (M.eraseIdx j)) (by kernel_rfl)) (Or.inr ⟨by rfl, rfl⟩) ?_
    try simp only [List.setIfInBounds_toArray, List.set_cons_zero, List.set_cons_succ]
    refine Ord.take_free (i := 15) (v := undef) 53 rfl rfl (by kernel_rfl) (by kernel_rfl) (by kernel_rfl) (by kernel_rfl) (fun _ _ _ h => h) (by first | (intro _; assumption) | exact Ord.no_pend (S := fun W => (W.cell? ⟨tb, 0, none⟩ = some (.slice (some ⟨g, 0, none⟩) E.length cp) ∧ W.cell? ⟨tb, 1, none⟩ = some (.map (some mb))) ∧ MapIs W mb (M.eraseIdx j)) (by kernel_rfl)) (Or.inr ⟨by rfl, rfl⟩) ?_
    try simp only [List.setIfInBounds_toArray, List.set_cons_zero, List.set_cons_succ]
    refine Ord.take_free (i := 16) (v := undef) 54 rfl rfl (by kernel_rfl) (by kernel_rfl) (by kernel_rfl) (by kernel_rfl) (fun _ _ _ h => h) (by first | (intro _; assumption) | exact Ord.no_pend (S := fun W => (W.cell? ⟨tb, 0, none⟩ = some (.slice (some ⟨g, 0, none⟩) E.length cp) ∧ W.cell? ⟨tb, 1, none⟩ = some (.map (some mb))) ∧ MapIs W mb (M.eraseIdx j)) (by kernel_rfl)) (Or.inr ⟨by rfl, rfl⟩) ?_
    try simp only [List.setIfInBounds_toArray, List.set_cons_zero, List.set_cons_succ]
    refine Ord.take_free (i := 17) (v := undef) 55 rfl rfl (by kernel_rfl) (by kernel_rfl) (by kernel_rfl) (by kernel_rfl) (fun _ _ _ h => h) (by first | (intro _; assumption) | exact Ord.no_pend (S := fun W => (W.cell? ⟨tb, 0, none⟩ = some (.slice (some ⟨g, 0, none⟩) E.length cp) ∧ W.cell? ⟨tb, 1, none⟩ = some (.map (some mb))) ∧ MapIs W mb (M.eraseIdx j)) (by kernel_rfl)) (Or.inr ⟨by rfl, rfl⟩) ?_
    try simp only [List.setIfInBounds_toArray, List.set_cons_zero, List.set_cons_succ]
    refine Ord.take_free (i := 18) (v := undef) 56 rfl rfl (by kernel_rfl) (by kernel_rfl) (by kernel_rfl) (by kernel_rfl) (fun _ _ _ h => h) (by first | (intro _; assumption) | exact Ord.no_pend (S := fun W => (W.cell? ⟨tb, 0, none⟩ = some (.slice (some ⟨g, 0, none⟩) E.length cp) ∧ W.cell? ⟨tb, 1, none⟩ = some (.map (some mb))) ∧ MapIs W mb (M.eraseIdx j)) (by kernel_rfl)) (Or.inr ⟨by rfl, rfl⟩) ?_
    try simp only [List.setIfInBounds_toArray, List.set_cons_zero, List.set_cons_succ]
    refine Ord.tf 19 57 rfl rfl ?_
    refine Ord.done (by kernel_rfl) ?_ _
    clear hS
    go_wp2
    go_ret
    exact ⟨_, _, _, rfl, HG.out, HD.out.2.1, HOD.out⟩


end Go.Proofs.YtoalboilghgalaaGreatDoor

/- Drop, of a heap with one object. -/
namespace Go.Proofs.YtoalboilghgalaaGreatDoor
open Go.RowKit
open Go.Proofs.Dc (V Ds Ky)
attribute [local go_sem] run_store_float

theorem tdel_any (base : Nat) (k : Ky) (tb mb : Nat) (ev : Value) (L : List (Ky × Ds)) (q : Int) (w : World) (hB : TabSt base w tb ev mb L q) (hq : q ≤ 1000000) (hk : getL L k ≠ none) :
    Calls Tryz.prog 250 #[.pointer (some ⟨tb, 0, none⟩), .agg (kArr k)] w fun e w' => ∃ ev', e = .returned (.bool true) ∧ TabSt base w' tb ev' mb (delL L k) q ∧ Only (tb :: mb :: ev.ownBlock.toList) w w' := by
  obtain ⟨E, M, last, hB, rfl, hl⟩ := hB
  cases h : findE E k with
  | none => exact absurd (findE_none.1 h) hk
  | some i =>
    refine (tdel_some base k tb mb ev E M last w hB (by omega) i (findE_lt h) h).mono ?_
    rintro e w' ⟨ev', E', M', he, ht, hL, ho⟩
    exact ⟨ev', he, ⟨_, _, _, ht, hL, hl⟩, ho⟩
/-- behind a drop -/
def DropPost (n0 : Nat) (w : World) (hb : Nat) (ov : Value) (ob : Nat) (tp : Option Addr) (cap fuel deep : Int) (kd : Kd) (ext : Bool) (L : List (Ky × Ds)) (e : Ending) (w' : World) : Prop := e = .returned (.tuple #[]) ∧ StX n0 w' hb ov ob tp cap fuel deep kd ext L ∧ Keeps n0 w w'

theorem pdrop_any {n0 : Nat} {w : World} {hb : Nat} {ov : Value} {ob : Nat} {tp : Option Addr} {cap fuel deep : Int} {kd : Kd} {ext : Bool} {L : List (Ky × Ds)} (s : StX n0 w hb ov ob tp cap fuel deep kd ext L) (k : Ky) (hk : getL L k ≠ none) (hne : delL L k ≠ []) : Calls Tryz.prog 239 #[.pointer (some ⟨ob, 9, none⟩), .agg (kArr k)] w fun e w' => DropPost n0 w hb ov ob tp cap fuel deep kd ext (delL L k) e w' := by
  have HN := Lib.hid (show kd.b - fuel - deep ≤ 1000000 ∧ kd.b ≤ 1000000 from ⟨by have := s.bd; omega, s.bd.1⟩)
  rcases s.tab with ⟨rfl, rfl, h0q⟩ | ⟨tb, mb, ev, rfl, h1, h2, ht, hLn⟩
  · exact absurd rfl hk
  · go_enter Tryz.func239, Tryz.ntmps239
    go_wp2_with ((with_reducible show wpList _ _ _ (⟨_, .box 40 _, _, _, _, _⟩ :: _) _ _); refine wpList_box_blk rfl 40 _ rfl (kArr k) rfl ?_; intro w0 hK hL hs0; clear hs0; have hcK := hK.cellK; have s1 := s.below hL; have hco := s1.o.cellO; have ht1 := ht.below hL)
    try simp only [Act.put]
    refine Ord.region (fun W => (W.cell? ⟨ob, 9, none⟩ = some (.pointer (some ⟨tb, 0, none⟩)) ∧ W.cell? ⟨w.heap.size, 0, none⟩ = some (.string k.str)) ∧ W.cell? ⟨w.heap.size, 1, none⟩ = some (.int .i64 k.sym)) [] (by kernel_rfl) ⟨⟨hco 9, hcK 0⟩, hcK 1⟩ ?_
    intro hS
    refine Ord.tp 0 9 rfl rfl ?_
    refine Ord.tp 1 10 rfl rfl ?_
    refine Ord.tp 2 11 rfl rfl ?_
    refine Ord.tp 3 12 rfl rfl ?_
    refine Ord.tp 4 13 rfl rfl ?_
    refine Ord.step (i := 5) rfl (by kernel_rfl) (by rfl) ?_
    intro K HK
    have st := s1.below (Below.refl _ _).drew
    have htt := ht1.below (Below.refl _ _).drew
    go_simp
    go_at_call 250
    refine (tdel_any n0 k tb mb ev L _ _ htt HN.out.1 hk).mono ?_
    rintro e w9 ⟨ev', rfl, ht9, hO9⟩
    obtain ⟨s9, k9⟩ := st.table htt ⟨h1, h2⟩ h2 (kd' := kd) rfl HN.out.2 ht9 hO9 hLn hne
    refine HK.out _ _ ?_
    clear HK
    refine ⟨Ord.np (by kernel_rfl), ?_⟩
    try simp only [List.setIfInBounds_toArray, List.set_cons_zero, List.set_cons_succ]
    refine Ord.done (by kernel_rfl) ?_ _
    clear hS hco hcK
    go_wp2
    go_end0
    exact ⟨rfl, s9, ((Keeps.of_below hL s.sz).trans (Keeps.of_below (Below.refl _ _).drew s1.sz)).trans k9⟩

theorem drop_any {n0 : Nat} {w : World} {hb : Nat} {ov : Value} {ob : Nat} {tp : Option Addr} {cap fuel deep : Int} {kd : Kd} {ext : Bool} {L : List (Ky × Ds)} (s : StX n0 w hb ov ob tp cap fuel deep kd ext L) (k : Ky) (hk : getL L k ≠ none) (hne : delL L k ≠ []) : Calls Tryz.prog 222 #[.pointer (some ⟨hb, 0, none⟩), .int .i64 1, .agg (kArr k)] w fun e w' => DropPost n0 w hb ov ob tp cap fuel deep kd ext (delL L k) e w' := by
  go_enter Tryz.func222, Tryz.ntmps222
  go_wp2_with ((with_reducible show wpList _ _ _ (⟨_, .box 40 _, _, _, _, _⟩ :: _) _ _); refine wpList_box_blk rfl 40 _ rfl (kArr k) rfl ?_; intro w0 hK hL hs0; clear hs0; have hcK := hK.cellK; have s1 := s.below hL)
  try simp only [Act.put]
  have s2 := s1.below (Below.refl _ _).drew
  refine Ord.region (fun W => W.cell? ⟨w.heap.size, 0, none⟩ = some (.string k.str) ∧ W.cell? ⟨w.heap.size, 1, none⟩ = some (.int .i64 k.sym)) [] (by kernel_rfl) ⟨hcK 0, hcK 1⟩ ?_
  intro hS
  refine Ord.tp 0 6 rfl rfl ?_
  refine Ord.tp 1 7 rfl rfl ?_
  refine Ord.tp 5 11 rfl rfl ?_
  refine Ord.step (i := 2) rfl (by kernel_rfl) (by rfl) ?_
  intro K HK
  go_simp
  go_at_call 84
  refine (at_any s2).mono ?_
  rintro e w2 ⟨rfl, rfl⟩
  refine HK.out _ _ ?_
  clear HK
  refine Ord.kp ?_ ?_
  · exact hS
  clear hS
  intro hS
  try simp only [List.setIfInBounds_toArray, List.set_cons_zero, List.set_cons_succ]
  refine Ord.tp 3 9 rfl rfl ?_
  refine Ord.tp 4 10 rfl rfl ?_
  refine Ord.step (i := 6) rfl (by kernel_rfl) (by rfl) ?_
  intro K HK
  go_simp
  go_at_call 239
  refine (pdrop_any s2 k hk hne).mono ?_
  rintro e w9 ⟨rfl, s9, k9⟩
  refine HK.out _ _ ?_
  clear HK
  refine ⟨Ord.np (by kernel_rfl), ?_⟩
  try simp only [List.setIfInBounds_toArray, List.set_cons_zero, List.set_cons_succ]
  refine Ord.done (by kernel_rfl) ?_ _
  clear hS hcK
  go_wp2
  go_end0
  exact ⟨rfl, s9, ((Keeps.of_below hL s.sz).trans (Keeps.of_below (Below.refl _ _).drew s1.sz)).trans k9⟩


end Go.Proofs.YtoalboilghgalaaGreatDoor
