/- Lemmas for this claim, in parts: Tput, Pget, Lies, OrdA, Bag. -/
import Derived.Test.YtoalboilghgalaaGreatDoorC01
import Derived.Test.YtoalboilghgalaaGreatDoorC16
import Derived.Test.YtoalboilghgalaaGreatDoorC17
import Derived.Deep.RegionHeld3
import Derived.StillTactics
import Derived.Test.YtoalboilghgalaaGreatDoorC15
import Derived.Test.YtoalboilghgalaaGreatDoorC11
set_option maxRecDepth 100000
set_option maxHeartbeats 4000000
set_option linter.unusedVariables false
set_option linter.unusedSimpArgs false
/- table.Put. -/
namespace Go.Proofs.YtoalboilghgalaaGreatDoor
open Go.RowKit
open Go.Proofs.Dc (V Ds Ky)
attribute [local go_sem] run_store_float

theorem range_d {W : World} {b : Nat} {d : Ds} (h : Blk W b (dArr d) 43) : W.rangeAt b 0 (dArr d).toList := fun j v hv => by
  rw [h.cell, Nat.zero_add]; simpa using hv
theorem below_grown0 {W W' : World} (h : W.grownBy W' none) : Below W.heap.size W W' := ⟨h.os, h.tape, h.output, h.size, fun k hk => h.block k hk (fun e => by cases e)⟩
theorem only_drew {S : List Nat} {w w' : World} (h : Only S w.drew w') : Only S w w' := ⟨h.os, h.tape, h.output, h.size, h.block⟩
theorem lookup_any {W : World} {mb : Nat} {M : List (Ky × Nat)} (h : MapIs W mb M) (k : Ky) : (Instr.lookup 227 (.map (some mb)) (.agg #[.string k.str, .int .i64 k.sym]) true).run Tryz.prog W =
    .ok (.tuple #[.int .i64 ((((placeM M k).map (·.2)).getD 0 : Nat) : Int), .bool ((placeM M k).map (·.2)).isSome]) W := run_lookup_k (W := W) h k
theorem update_op {o : Oper} {a : Act} {W : World} {K : Act → World → Prop} {Q : Exit → Act → World → Prop} (m x y : Operand) (ho : o.op = .mapUpdate 227 m x y) {mb : Nat} {M : List (Ky × Nat)} (hm : MapIs W mb M) (k : Ky)
    (hk : placeM M k = none) (h1 : a.eval m = .map (some mb)) (h2 : a.eval x = .agg #[.string k.str, .int .i64 k.sym]) (n : Nat) (h3 : a.eval y = .int .i64 (n : Nat))
    (h : ∀ W', MapIs W' mb (M ++ [(k, n)]) → Only [mb] W W' → K (a.put o.dst undef) W') : o.wp Tryz.prog a W K Q := by
  obtain ⟨W', hr, hm', ho'⟩ := run_update_k hm k hk n
  have hr' : (Instr.mapUpdate 227 (.map (some mb)) (.agg #[.string k.str, .int .i64 k.sym]) (.int .i64 (n : Nat))).run Tryz.prog W = .ok () W' := hr
  unfold Oper.wp execOp
  simp only [ho, h1, h2, h3, Sem.run_bind, hr', Result.andThen_ok, Sem.run_pure]
  exact h W' hm' ho'
theorem store_part_op {P : Program} {o : Oper} {a : Act} {W : World} {K : Act → World → Prop} {Q : Exit → Act → World → Prop} (ty : TypeId) (x y : Operand) (ho : o.op = .store ty x y)
    (b i : Nat) (C old : Array Value) (t : TypeId) (hx : a.eval x = .pointer (some ⟨b, i, none⟩)) (hy : a.eval y = .agg C) (hb : Blk W b old t) (hi : (P.info? ty).map (·.size) = some C.size) (hold : i + C.size ≤ old.size)
    (h1 : C.all (·.oneCell') = true) (h : ∀ W', Blk W' b (laid old i C.toList) t → Only [b] W W' → K (a.put o.dst undef) W') : o.wp P a W K Q :=
  wp_store_mid ty x y ho b i C hx hy (fun j hj => ⟨by rw [hb.cell, Array.getElem?_eq_getElem (by omega)]; rfl, hb.frozen _⟩) hi h1 (h _ (only_setCells hb).1 (only_setCells hb).2)

/-- where a row lies that is not empty, whole -/
theorem row_cur {W : World} {base : Nat} {v : Value} {n : Nat} {xs : List Value} (h : W.ownsRow base 245 22 v n xs) (hn : 0 < n) :
    ∃ g cp cur, v = .slice (some ⟨g, 0, none⟩) n cp ∧ base ≤ g ∧ Blk W g cur 245 ∧ n * 22 ≤ cur.size ∧ cur.toList.take (n * 22) = xs := by
  obtain ⟨_, h2⟩ := h
  rcases h2 with ⟨_, h2⟩ | ⟨g, cap, cur, hv, hg, hh, hn', hc, hs, ht⟩
  · omega
  · exact ⟨g, cap, cur, hv, hg, hh, by omega, ht⟩
theorem laid_list : ∀ (vs : List Value) (o : Nat) (C : Array Value), o + vs.length ≤ C.size → (laid C o vs).toList = C.toList.take o ++ vs ++ C.toList.drop (o + vs.length)
  | [], o, C, _ => by simp [laid]
  | v :: r, o, C, h => by
    simp only [List.length_cons] at h
    rw [laid, laid_list r (o + 1) _ (by simp; omega)]
    have e1 : (C.setIfInBounds o v).toList = C.toList.set o v := by simp
    rw [e1, List.drop_set_of_lt (by omega), List.take_add_one, List.take_set_of_le (Nat.le_refl o)]
    have e2 : (C.toList.set o v)[o]? = some v := by rw [List.getElem?_set_self (by simpa using (by omega : o < C.size))]
    rw [e2]
    simp only [Option.toList_some, List.append_assoc, List.cons_append, List.nil_append, List.length_cons]
    rw [show o + 1 + r.length = o + (r.length + 1) by omega]
theorem gCells_put (e : GE) (d : Ds) : gCells ⟨(e.p.1, d), e.n, e.gone⟩ = (gCells e).take 2 ++ (dArr d).toList ++ (gCells e).drop 20 := rfl
theorem gAll_put (E : List GE) (i : Nat) (hi : i < E.length) (d : Ds) : gAll (E.set i ⟨(E[i].p.1, d), E[i].n, E[i].gone⟩) = (gAll E).take (i * 22 + 2) ++ (dArr d).toList ++ (gAll E).drop (i * 22 + 2 + 18) := by
  have hl : i * 22 + 22 ≤ (gAll E).length := by rw [gAll_length]; omega
  have hx : gCells E[i] = ((gAll E).drop (i * 22)).take 22 := by
    apply List.ext_getElem?
    intro j
    by_cases hj : j < 22
    · rw [List.getElem?_take, if_pos hj, List.getElem?_drop, gAll_get E i j hi hj]
    · rw [List.getElem?_eq_none (by rw [gCells_length]; omega), List.getElem?_eq_none (by rw [List.length_take, List.length_drop]; omega)]
  rw [gAll_set E i hi, gCells_put, hx]
  generalize gAll E = X at hl ⊢
  generalize (dArr d).toList = D
  generalize i * 22 = s at hl ⊢
  have e1 : X.take (s + 2) = X.take s ++ ((X.drop s).take 22).take 2 := by rw [List.take_take, Nat.min_eq_left (by omega), List.take_add]
  have e2 : X.drop (s + 2 + 18) = ((X.drop s).take 22).drop 20 ++ X.drop (s + 22) := by
    rw [List.drop_take, List.drop_drop]
    have : X.drop (s + 22) = (X.drop (s + 20)).drop 2 := by rw [List.drop_drop]
    rw [this, List.take_append_drop]
  rw [e1, e2]
  simp only [List.append_assoc]
theorem gAll_laid (E : List GE) (i : Nat) (hi : i < E.length) (d : Ds) (cur : Array Value) (hs : E.length * 22 ≤ cur.size) (ht : cur.toList.take (E.length * 22) = gAll E) :
    (laid cur (i * 22 + 2) (dArr d).toList).toList.take (E.length * 22) = gAll (E.set i ⟨(E[i].p.1, d), E[i].n, E[i].gone⟩) := by
  have h18 : (dArr d).toList.length = 18 := rfl
  rw [gAll_put E i hi d, ← ht, laid_list _ _ _ (by rw [h18]; omega), h18]
  have hl : cur.toList.length = cur.size := by simp
  generalize (dArr d).toList = D at h18 ⊢
  generalize cur.toList = xs at hl ⊢
  have hn : i * 22 + 2 + 18 ≤ E.length * 22 := by omega
  generalize E.length * 22 = N at hs hn ⊢
  have e1 : (xs.take N).take (i * 22 + 2) = xs.take (i * 22 + 2) := by rw [List.take_take, Nat.min_eq_left (by omega)]
  have e2 : (xs.take (i * 22 + 2)).length = i * 22 + 2 := by rw [List.length_take]; omega
  rw [e1, List.take_append, List.take_append, List.length_append, e2, h18, List.drop_take, List.take_of_length_le (l := xs.take (i * 22 + 2)) (by omega), List.take_of_length_le (l := D) (by omega)]
/-- behind Put of a key that stands -/
theorem tput_back (base : Nat) (k : Ky) (d : Ds) (tb mb : Nat) (E : List GE) (M : List (Ky × Nat)) (last : Nat) (w w2 w3 : World) (g cp : Nat) (cur : Array Value) (i : Nat) (hi : i < E.length) (hB : TabG base w tb (.slice (some ⟨g, 0, none⟩) E.length cp) mb E M last)
    (hk : findE E k = some i) (h2 : Below w.heap.size w w2) (hg : Blk w g cur 245) (hs : E.length * 22 ≤ cur.size) (ht : cur.toList.take (E.length * 22) = gAll E) (hg3 : Blk w3 g (laid cur (i * 22 + 2) (dArr d).toList) 245) (hO3 : Only [g] w2 w3) :
    TabG base w3 tb (.slice (some ⟨g, 0, none⟩) E.length cp) mb (E.set i ⟨(E[i].p.1, d), E[i].n, false⟩) M last ∧ Only (tb :: mb :: (Value.slice (some ⟨g, 0, none⟩) E.length cp).ownBlock.toList) w w3 := by
  have hO : Only [g] w w3 := ((Only.of_below h2).mono (S := []) (by simp)).then (S := []) (by simpa using (Only.refl [] w2)) (by simp) |>.mono (S' := [g]) (by simp) |>.trans (hO3.mono (by simp)) 
  have hgo := (findE_at hk).1
  obtain ⟨hT, hR, hM, hL⟩ := hB
  refine ⟨⟨?_, ?_, ?_, hL.old d hi hk⟩, hO.mono (by simp [Value.ownBlock])⟩
  · exact hT.only hO (by simpa using (hg.ne hT (by decide)).symm)
  · obtain ⟨hx, h2⟩ := hR
    refine ⟨by rw [gAll_length, List.length_set], .inr ?_⟩
    rcases h2 with ⟨h2, _⟩ | ⟨g', cap, cur', hv, hb, hh, hn, hc, hsz, htk⟩
    · cases h2
    · simp only [Value.slice.injEq, Option.some.injEq, Addr.mk.injEq] at hv
      obtain ⟨⟨rfl, _⟩, _, rfl⟩ := hv
      have e : cur' = cur := by
        have := hg; unfold Blk at this; rw [hh] at this; simpa using this
      subst e
      exact ⟨g, cp, _, by rw [List.length_set], hb, hg3, by simpa using hn, hc, by rw [laid_size]; exact hsz, by rw [List.length_set]; have := gAll_laid E i hi d cur' hs ht; rw [hgo] at this; exact this⟩
  · exact hM.keep (hO.block mb hM.lt (by simpa using hM.ne hg))

theorem tput_old (base : Nat) (k : Ky) (d : Ds) (tb mb : Nat) (ev : Value) (E : List GE) (M : List (Ky × Nat)) (last : Nat) (w : World) (hB : TabG base w tb ev mb E M last) (hT : Tabs w) (i : Nat) (hi : i < E.length) (hk : findE E k = some i) (hg : kgood k = true) :
    Calls Tryz.prog 137 #[.pointer (some ⟨tb, 0, none⟩), .agg (kArr k), .agg (dArr d)] w fun e w' => ∃ ev', e = .returned (.int .i64 0) ∧ TabG base w' tb ev' mb (E.set i ⟨(E[i].p.1, d), E[i].n, false⟩) M last ∧ Only (tb :: mb :: ev.ownBlock.toList) w w' := by
  have HB := Lib.hid hB
  have HKA := Lib.hid hk
  obtain ⟨hB, hrow, hmap, hok⟩ := hB
  obtain ⟨g, cp, cur, rfl, hbg, hgB, hsz, htk⟩ := row_cur hrow (by omega)
  have cK := fun W (h : Below w.heap.size w W) => keycheck_any k W (hT.below h)
  simp only [hg, if_true] at cK
  have hlk : ∀ W, MapIs W mb M → (Instr.lookup 227 (.map (some mb)) (.agg #[.string k.str, .int .i64 k.sym]) true).run Tryz.prog W = .ok (.tuple #[.int .i64 (i : Int), .bool true]) W := fun W h => by
    have := lookup_any h k
    rw [hok.place, hk] at this
    simpa using this
  have HS := Lib.hid (And.intro hsz htk)
  clear hk hg hrow hok hsz htk
  go_enter Tryz.func137, Tryz.ntmps137
  go_wp2_with (first | ((with_reducible show wpList _ _ _ (⟨_, .box 40 _, _, _, _, _⟩ :: _) _ _); refine wpList_box_blk rfl 40 _ rfl (kArr k) rfl ?_; intro w0 hK hL hs0; have hB0 := hB.next hL) | ((with_reducible show wpList _ _ _ (⟨_, .box 43 _, _, _, _, _⟩ :: _) _ _); refine wpList_box_blk rfl 43 _ rfl (dArr d) rfl ?_; intro w1 hD hL1 hs1; rw [hs0] at hD hs1; have hK1 := hK.next hL1; have hB1 := hB0.next hL1; have hLL := more hL hL1; have hcK1 := hK1.cellK; clear hs1) | (go_at_call 13; refine (cK _ hLL).mono ?_; rintro e w2 ⟨rfl, hb2⟩; have hK2 := hK1.next hb2; have hD2 := hD.next hb2; have hB2 := hB1.next hb2; have hL2 := more hLL hb2; have hcK2 := hK2.cellK; have hcB2 := hB2.cellT; clear hcK1))
  have hm2 : MapIs w2 mb M := hmap.keep (hL2.block mb hmap.lt)
  refine Ord.region (fun W => ((W.cell? ⟨tb, 1, none⟩ = some (.map (some mb)) ∧ W.cell? ⟨w.heap.size, 0, none⟩ = some (.string k.str)) ∧ W.cell? ⟨w.heap.size, 1, none⟩ = some (.int .i64 k.sym)) ∧ MapIs W mb M) [7, 8, 9, 10] (by kernel_rfl) ⟨⟨⟨hcB2 1, hcK2 0⟩, hcK2 1⟩, hm2⟩ ?_
  intro hS
  refine Ord.tp 0 16 rfl rfl ?_
  refine Ord.tp 1 17 rfl rfl ?_
  refine Ord.tp 2 18 rfl rfl ?_
  refine Ord.tp 3 19 rfl rfl ?_
  refine Ord.tp 4 20 rfl rfl ?_
  refine Ord.tp 5 21 rfl rfl ?_
  refine Ord.step (i := 6) rfl (by kernel_rfl) (by rfl) ?_
  intro K HK
  go_simp
  refine HK.out _ _ ?_
  clear HK
  refine ⟨Ord.np (by kernel_rfl), ?_⟩
  try simp only [List.setIfInBounds_toArray, List.set_cons_zero, List.set_cons_succ]
  refine Ord.tf 7 22 rfl rfl ?_
  refine Ord.tf 8 23 rfl rfl ?_
  refine Ord.tf 9 8 rfl rfl ?_
  refine Ord.tf 10 9 rfl rfl ?_
  refine Ord.done (by kernel_rfl) ?_ _
  have hi1 : (0 : Int) ≤ (i : Int) ∧ (i : Int) < (E.length : Int) := by omega
  clear hS hcB2 hcK2 hlk
  have hcB3 := (show Blk w2.drew tb _ _ from hB2).cellT
  go_wp2
  refine Ord.region (fun W => W.cell? ⟨tb, 0, none⟩ = some (.slice (some ⟨g, 0, none⟩) E.length cp) ∧ Blk W (w.heap.size + 1) (dArr d) 43) [] (by kernel_rfl) ⟨hcB3 0, hD2⟩ ?_
  intro hS
  refine Ord.tp 0 25 rfl rfl ?_
  refine Ord.tp 1 26 rfl rfl ?_
  refine Ord.tp 2 27 rfl rfl ?_
  refine Ord.tp 3 28 rfl rfl ?_
  refine Ord.tp 4 29 rfl rfl ?_
  refine Ord.tk 5 30 rfl rfl (yieldsIf_load_mid (by rfl) 43 _ rfl (w.heap.size + 1) 0 rfl [.int .i64 d.val.kind, .bool d.val.bool, .float .f64 d.val.num, .string d.val.str, .int .i64 d.val.id, .int .i64 d.get.kind, .bool d.get.bool, .float .f64 d.get.num, .string d.get.str, .int .i64 d.get.id, .int .i64 d.set.kind, .bool d.set.bool, .float .f64 d.set.num, .string d.set.str, .int .i64 d.set.id, .int .i64 d.w, .int .i64 d.e, .int .i64 d.c] _ (fun W hSW => range_d hSW.2) Tryz.underlying43 rfl Tryz.size43) ?_
  refine Ord.tp 6 31 rfl rfl ?_
  refine Ord.tp 7 32 rfl rfl ?_
  refine Ord.tp 8 33 rfl rfl ?_
  refine Ord.step (i := 9) rfl (by kernel_rfl) (by rfl) ?_
  intro K HK
  have hg2 := hgB.next hL2
  refine store_part_op 43 (.tmp 33) (.tmp 30) rfl g (i * 22 + 2) (dArr d) cur 245 rfl rfl (show Blk w2.drew.drew g cur 245 from hg2) Tryz.size43 (by have := HS.out.1; have h18 : (dArr d).size = 18 := rfl; rw [h18]; omega) (dCells_one d) ?_
  intro w3 hg3 hO3
  refine HK.out _ _ ?_
  clear HK
  refine ⟨Ord.np (by kernel_rfl), ?_⟩
  try simp only [List.setIfInBounds_toArray, List.set_cons_zero, List.set_cons_succ]
  refine Ord.done (by kernel_rfl) ?_ _
  clear hS
  go_wp2
  go_ret
  refine ⟨.slice (some ⟨g, 0, none⟩) E.length cp, rfl, ?_⟩
  exact tput_back base k d tb mb E M last w w2.drew.drew w3 g cp cur i hi HB.out HKA.out (show Below w.heap.size w w2.drew.drew from hL2.drew.drew) hgB HS.out.1 HS.out.2 hg3 hO3
theorem tput_new (base : Nat) (k : Ky) (d : Ds) (tb mb : Nat) (ev : Value) (E : List GE) (M : List (Ky × Nat)) (last : Nat) (w : World) (hB : TabG base w tb ev mb E M last) (hT : Tabs w) (hk : findE E k = none) (hg : kgood k = true) (hlen : last < 1000000) (hbs : base ≤ w.heap.size) :
    Calls Tryz.prog 137 #[.pointer (some ⟨tb, 0, none⟩), .agg (kArr k), .agg (dArr d)] w fun e w' => ∃ ev', e = .returned (.int .i64 0) ∧ TabG base w' tb ev' mb (E ++ [⟨(k, d), last + 1, false⟩]) (M ++ [(k, E.length)]) (last + 1) ∧ Only (tb :: mb :: ev.ownBlock.toList) w w' := by
  have HKA := Lib.hid hk
  obtain ⟨hB, hrow, hmap, hok⟩ := hB
  have HOK := Lib.hid hok
  have HPL := Lib.hid (hok.find_none.2 hk)
  have hle := hok.len_le
  obtain ⟨ep, ec, rfl⟩ := row_slice hrow
  have cK := fun W (h : Below w.heap.size w W) => keycheck_any k W (hT.below h)
  simp only [hg, if_true] at cK
  have hlk : ∀ W, MapIs W mb M → (Instr.lookup 227 (.map (some mb)) (.agg #[.string k.str, .int .i64 k.sym]) true).run Tryz.prog W = .ok (.tuple #[.int .i64 0, .bool false]) W := fun W h => by
    have := lookup_any h k
    rw [hok.place, hk] at this
    simpa using this
  obtain ⟨i0, hi0, hz0, hz1, hz2⟩ := info_parts Tryz.info245
  have HN := Lib.hid (And.intro hlen hle)
  have hl0 : E.length < 1000000 := by omega
  have hl1 : last < 1000000 := hlen
  clear hk hg hlen hle hok
  go_enter Tryz.func137, Tryz.ntmps137
  go_wp2_with (first | ((with_reducible show wpList _ _ _ (⟨_, .box 40 _, _, _, _, _⟩ :: _) _ _); refine wpList_box_blk rfl 40 _ rfl (kArr k) rfl ?_; intro w0 hK hL hs0; have hB0 := hB.next hL) | ((with_reducible show wpList _ _ _ (⟨_, .box 43 _, _, _, _, _⟩ :: _) _ _); refine wpList_box_blk rfl 43 _ rfl (dArr d) rfl ?_; intro w1 hD hL1 hs1; rw [hs0] at hD hs1; have hK1 := hK.next hL1; have hB1 := hB0.next hL1; have hLL := more hL hL1; have hcK1 := hK1.cellK; clear hs1) | (go_at_call 13; refine (cK _ hLL).mono ?_; rintro e w2 ⟨rfl, hb2⟩; have hK2 := hK1.next hb2; have hD2 := hD.next hb2; have hB2 := hB1.next hb2; have hL2 := more hLL hb2; have hcK2 := hK2.cellK; have hcB2 := hB2.cellT; clear hcK1))
  have hm2 : MapIs w2 mb M := hmap.keep (hL2.block mb hmap.lt)
  refine Ord.region (fun W => ((W.cell? ⟨tb, 1, none⟩ = some (.map (some mb)) ∧ W.cell? ⟨w.heap.size, 0, none⟩ = some (.string k.str)) ∧ W.cell? ⟨w.heap.size, 1, none⟩ = some (.int .i64 k.sym)) ∧ MapIs W mb M) [7, 8, 9, 10] (by kernel_rfl) ⟨⟨⟨hcB2 1, hcK2 0⟩, hcK2 1⟩, hm2⟩ ?_
  intro hS
  refine Ord.tp 0 16 rfl rfl ?_
  refine Ord.tp 1 17 rfl rfl ?_
  refine Ord.tp 2 18 rfl rfl ?_
  refine Ord.tp 3 19 rfl rfl ?_
  refine Ord.tp 4 20 rfl rfl ?_
  refine Ord.tp 5 21 rfl rfl ?_
  refine Ord.step (i := 6) rfl (by kernel_rfl) (by rfl) ?_
  intro K HK
  go_simp
  refine HK.out _ _ ?_
  clear HK
  refine ⟨Ord.np (by kernel_rfl), ?_⟩
  try simp only [List.setIfInBounds_toArray, List.set_cons_zero, List.set_cons_succ]
  refine Ord.tf 7 22 rfl rfl ?_
  refine Ord.tf 8 23 rfl rfl ?_
  refine Ord.tf 9 8 rfl rfl ?_
  refine Ord.tf 10 9 rfl rfl ?_
  refine Ord.done (by kernel_rfl) ?_ _
  clear hS hcB2 hcK2 hlk
  have hcB3 := (show Blk w2.drew tb _ _ from hB2).cellT
  have hfB3 := (show Blk w2.drew tb _ _ from hB2).frozen
  have hwr : IntKind.u64.wrap ((last : Int) + 1) = (last : Int) + 1 := by unfold IntKind.wrap; simp [IntKind.signed, IntKind.bits]; omega
  go_wp2
  have h4 := only_setCell (o := 2) (v := .int .u64 ((last : Int) + 1)) (show Blk w2.drew tb _ _ from hB2)
  rw [show (tArr (.slice ep E.length ec) mb last).setIfInBounds 2 (.int .u64 ((last : Int) + 1)) = tArr (.slice ep E.length ec) mb (last + 1) by simp [tArr]] at h4
  obtain ⟨w4, hw4⟩ : ∃ W, (w2.setCell ⟨tb, 2, none⟩ (.int .u64 ((last : Int) + 1))).drew = W := ⟨_, rfl⟩
  rw [show w2.drew.setCell ⟨tb, 2, none⟩ (.int .u64 ((last : Int) + 1)) = (w2.setCell ⟨tb, 2, none⟩ (.int .u64 ((last : Int) + 1))).drew from World.setCell_drew _ _, hw4] at h4
  rw [hw4]
  have htb := hB.lt
  have hK4 := (show Blk w2.drew _ _ _ from hK2).only h4.2 (by simp; omega)
  have hD4 := (show Blk w2.drew _ _ _ from hD2).only h4.2 (by simp; omega)
  have hm4 := (show MapIs w2.drew mb _ from hm2).keep (h4.2.block mb hm2.lt (by simpa using hm2.ne hB2))
  have hcB4 := h4.1.cellT
  have hcK4 := hK4.cellK
  clear hcB3 hfB3
  refine Ord.region (fun W => (((W.cell? ⟨tb, 0, none⟩ = some (.slice ep E.length ec) ∧ W.cell? ⟨tb, 1, none⟩ = some (.map (some mb))) ∧ W.cell? ⟨w.heap.size, 0, none⟩ = some (.string k.str)) ∧ W.cell? ⟨w.heap.size, 1, none⟩ = some (.int .i64 k.sym))) [] (by kernel_rfl) ⟨⟨⟨hcB4 0, hcB4 1⟩, hcK4 0⟩, hcK4 1⟩ ?_
  intro hS
  refine Ord.tp 0 41 rfl rfl ?_
  refine Ord.tp 1 42 rfl rfl ?_
  refine Ord.tp 2 43 rfl rfl ?_
  refine Ord.tp 3 44 rfl rfl ?_
  refine Ord.tp 4 45 rfl rfl ?_
  refine Ord.tp 5 46 rfl rfl ?_
  refine Ord.tp 6 47 rfl rfl ?_
  refine Ord.tp 7 48 rfl rfl ?_
  refine Ord.tp 8 49 rfl rfl ?_
  refine Ord.tp 9 50 rfl rfl ?_
  refine Ord.step (i := 10) rfl (by kernel_rfl) (by rfl) ?_
  intro K HK
  refine update_op (.tmp 44) (.tmp 45) (.tmp 50) rfl (show MapIs w4.drew mb M from hm4) k HPL.out rfl rfl E.length rfl ?_
  intro w5 hm5 hO5
  refine HK.out _ _ ?_
  clear HK
  refine ⟨Ord.np (by kernel_rfl), ?_⟩
  try simp only [List.setIfInBounds_toArray, List.set_cons_zero, List.set_cons_succ]
  refine Ord.done (by kernel_rfl) ?_ _
  clear hS hcB4 hcK4
  have h5 := (show Blk w4.drew tb _ _ from h4.1).only hO5 (by simpa using (hm2.ne hB2).symm)
  have hmlt := hmap.lt
  have hK5 := (show Blk w4.drew _ _ _ from hK4).only hO5 (by simp; omega)
  have hD5 := (show Blk w4.drew _ _ _ from hD4).only hO5 (by simp; omega)
  have hcB5 := h5.cellT
  have hcK5 := hK5.cellK
  go_wp2
  refine Ord.region (fun W => ((((W.cell? ⟨tb, 0, none⟩ = some (.slice ep E.length ec) ∧ W.cell? ⟨tb, 2, none⟩ = some (.int .u64 ((last : Int) + 1))) ∧ W.cell? ⟨w.heap.size, 0, none⟩ = some (.string k.str)) ∧ W.cell? ⟨w.heap.size, 1, none⟩ = some (.int .i64 k.sym)) ∧ Blk W (w.heap.size + 1) (dArr d) 43)) [] (by kernel_rfl) ⟨⟨⟨⟨hcB5 0, hcB5 2⟩, hcK5 0⟩, hcK5 1⟩, hD5⟩ ?_
  intro hS
  refine Ord.tp 0 51 rfl rfl ?_
  refine Ord.tp 1 52 rfl rfl ?_
  refine Ord.tp 2 53 rfl rfl ?_
  refine Ord.tp 3 54 rfl rfl ?_
  refine Ord.tp 4 55 rfl rfl ?_
  refine Ord.tp 5 56 rfl rfl ?_
  refine Ord.tk 6 57 rfl rfl (yieldsIf_load_mid (by rfl) 43 _ rfl (w.heap.size + 1) 0 rfl [.int .i64 d.val.kind, .bool d.val.bool, .float .f64 d.val.num, .string d.val.str, .int .i64 d.val.id, .int .i64 d.get.kind, .bool d.get.bool, .float .f64 d.get.num, .string d.get.str, .int .i64 d.get.id, .int .i64 d.set.kind, .bool d.set.bool, .float .f64 d.set.num, .string d.set.str, .int .i64 d.set.id, .int .i64 d.w, .int .i64 d.e, .int .i64 d.c] _ (fun W hSW => range_d hSW.2) Tryz.underlying43 rfl Tryz.size43) ?_
  refine Ord.tp 7 58 rfl rfl ?_
  refine Ord.tp 8 59 rfl rfl ?_
  refine Ord.tp 9 60 rfl rfl ?_
  refine Ord.tp 10 61 rfl rfl ?_
  refine Ord.tp 11 62 rfl rfl ?_
  refine Ord.tp 12 63 rfl rfl ?_
  refine Ord.step (i := 13) rfl (by kernel_rfl) (by rfl) ?_
  intro K HK
  go_simp
  refine HK.out _ _ ?_
  clear HK
  refine Ord.kp ?_ ?_
  · exact ⟨⟨⟨⟨(h5.alloc _).cellT 0, (h5.alloc _).cellT 2⟩, (hK5.alloc _).cellK 0⟩, (hK5.alloc _).cellK 1⟩, hD5.alloc _⟩
  clear hS
  intro hS
  try simp only [List.setIfInBounds_toArray, List.set_cons_zero, List.set_cons_succ]
  refine Ord.step (i := 14) rfl (by kernel_rfl) (by rfl) ?_
  intro K HK
  obtain ⟨w6, hw6⟩ : ∃ W, W = (w5.alloc (.cells #[.string k.str, .int .i64 k.sym, .int .i64 d.val.kind, .bool d.val.bool, .float .f64 d.val.num, .string d.val.str, .int .i64 d.val.id, .int .i64 d.get.kind, .bool d.get.bool, .float .f64 d.get.num, .string d.get.str, .int .i64 d.get.id, .int .i64 d.set.kind, .bool d.set.bool, .float .f64 d.set.num, .string d.set.str, .int .i64 d.set.id, .int .i64 d.w, .int .i64 d.e, .int .i64 d.c, .int .u64 ((last : Int) + 1), .bool false] 245)).drew := ⟨_, rfl⟩
  rw [← hw6]
  have hs6 : w6.heap.size = w5.heap.size + 1 := by rw [hw6]; simp
  have hb6 : Below w5.heap.size w5 w6 := by rw [hw6]; exact (one w5 _).drew
  have hrow6 : w6.ownsRow base 245 22 (.slice ep E.length ec) E.length (gAll E) :=
    ownsRow_only (ownsRow_only (ownsRow_only (ownsRow_only hrow (Only.of_below (S := []) hL2) (by simp)) (only_drew h4.2) (by intro g hg; simpa using ownsRow_ne hrow hB (by decide) g hg)) (show Only [mb] w4 w5 from ⟨hO5.os, hO5.tape, hO5.output, hO5.size, hO5.block⟩) (by intro g hg; simpa using ownsRow_nmap hrow hmap g hg)) (Only.of_below (S := []) hb6) (by simp)
  have hbase6 : base ≤ w6.heap.size := by have := hL2.size; have := h4.2.size; have := hO5.size; have e : w4.drew.heap.size = w4.heap.size := rfl; have e2 : w2.drew.heap.size = w2.heap.size := rfl; omega
  refine wp_append_lies w6 (.tmp 55) (.tmp 64) 226 rfl base 245 i0 _ 22 208 Tryz.underlying226 hi0 hz0 hz1 hz2 rfl (by decide) (.slice ep E.length ec) E.length (gAll E) rfl hrow6 ⟨w5.heap.size, 0, none⟩ 1 1 (gCells ⟨(k, d), last + 1, false⟩) rfl (by rfl) (by rw [hw6]; exact World.news_of_block (cs := (gCells ⟨(k, d), last + 1, false⟩).toArray) (t := 245) (fr := (0, 0)) (heap_alloc_new w5 _)) (by simp [Value.oneCell', gCells, kArr, dArr]) (by decide) (by have := HN.out; unfold maxLen; omega) (by have := HN.out; omega) hbase6 _ rfl ?_
  intro gg cp w7 hown7 hgrow7 hat7 hlt7
  have rowne : ∀ b C t, Blk w6 b C t → t ≠ 245 → (Value.slice ep E.length ec).ownBlock ≠ some b := fun b C t hb ht h => ownsRow_ne hrow6 hb (Ne.symm ht) b h rfl
  have hB7 : Blk w7 tb (tArr (.slice ep E.length ec) mb (last + 1)) 229 := (hgrow7.block tb (h5.next hb6).lt (fun h => rowne _ _ _ (h5.next hb6) (by decide) h.symm)).trans (h5.next hb6)
  have hK7 : Blk w7 w.heap.size (kArr k) 40 := (hgrow7.block _ (hK5.next hb6).lt (fun h => rowne _ _ _ (hK5.next hb6) (by decide) h.symm)).trans (hK5.next hb6)
  have hD7 : Blk w7 (w.heap.size + 1) (dArr d) 43 := (hgrow7.block _ (hD5.next hb6).lt (fun h => rowne _ _ _ (hD5.next hb6) (by decide) h.symm)).trans (hD5.next hb6)
  have hcB7 := hB7.cellT
  have hfB7 := hB7.frozen
  have hcK7 := hK7.cellK
  refine HK.out _ _ ?_
  clear HK
  refine Ord.kp ?_ ?_
  · exact ⟨⟨⟨⟨hcB7 0, hcB7 2⟩, hcK7 0⟩, hcK7 1⟩, hD7⟩
  clear hS
  intro hS
  try simp only [List.setIfInBounds_toArray, List.set_cons_zero, List.set_cons_succ]
  refine Ord.tp 15 66 rfl rfl ?_
  refine Ord.tp 16 67 rfl rfl ?_
  refine Ord.step (i := 17) rfl (by kernel_rfl) (by rfl) ?_
  intro K HK
  go_simp
  refine HK.out _ _ ?_
  clear HK
  refine ⟨Ord.np (by kernel_rfl), ?_⟩
  try simp only [List.setIfInBounds_toArray, List.set_cons_zero, List.set_cons_succ]
  refine Ord.done (by kernel_rfl) ?_ _
  clear hS hcB7 hfB7 hcK7 hcK5 hcB5
  go_wp2
  go_ret
  refine ⟨.slice (some ⟨gg, 0, none⟩) (E.length + 1) cp, rfl, ?_⟩
  have hm5' : MapIs w5 mb (M ++ [(k, E.length)]) := hm5
  have := tput_end base k d tb mb (.slice ep E.length ec) E M last w w2 w4 w5 w6 w7 gg cp _ hB hmap hrow HOK.out HKA.out hL2 (only_drew h4.2) hm5' (show Only [mb] w4.drew w5 from hO5) hw6 hB7 hown7 hgrow7 hat7
  exact ⟨this.1, this.2.1⟩

end Go.Proofs.YtoalboilghgalaaGreatDoor

/- The properties: get, put; Lies, Lay. -/
namespace Go.Proofs.YtoalboilghgalaaGreatDoor
open Go.RowKit
open Go.Proofs.Dc (V Ds Ky)
attribute [local go_sem] run_store_float

theorem store_blk_op {P : Program} {o : Oper} {a : Act} {W : World} {K : Act → World → Prop} {Q : Exit → Act → World → Prop} (ty : TypeId) (x y : Operand) (ho : o.op = .store ty x y)
    (b : Nat) (C old : Array Value) (t : TypeId) (hx : a.eval x = .pointer (some ⟨b, 0, none⟩)) (hy : a.eval y = .agg C) (hb : Blk W b old t) (hi : (P.info? ty).map (·.size) = some C.size) (hold : old.size = C.size)
    (h1 : C.all (·.oneCell') = true) (h : ∀ W', Blk W' b C t → Only [b] W W' → K (a.put o.dst undef) W') : o.wp P a W K Q :=
  wp_store_row ty x y ho b C hx hy t old hb hi hold h1 (h _ (only_setRow hb).1 (only_setRow hb).2)
theorem TabSt.next {base : Nat} {W W' : World} {tb mb : Nat} {ev : Value} {L : List (Ky × Ds)} {q : Int} (h : TabSt base W tb ev mb L q) (hb : Below W.heap.size W W') : TabSt base W' tb ev mb L q := h.below hb
/-- what Get of a table says -/
theorem tget_any (base : Nat) (k : Ky) (tb mb : Nat) (ev : Value) (L : List (Ky × Ds)) (q : Int) (w : World) (hB : TabSt base w tb ev mb L q) :
    Calls Tryz.prog 251 #[.pointer (some ⟨tb, 0, none⟩), .agg (kArr k)] w fun e w' => e = .returned (.tuple #[.agg (dArr ((getL L k).getD Dc.d0)), .bool (getL L k).isSome]) ∧ Below w.heap.size w w' := by
  obtain ⟨E, M, last, hB, rfl, _⟩ := hB
  rw [getL_find]
  cases h : findE E k with
  | none => exact tget_none base k tb mb ev E M last w hB h
  | some i =>
    have hi : i < E.length := findE_lt h
    simpa [hi] using tget_some base k tb mb ev E M last w hB i hi h

theorem pget_any {n0 : Nat} {w : World} {hb : Nat} {ov : Value} {ob : Nat} {tp : Option Addr} {cap fuel deep : Int} {kd : Kd} {ext : Bool} {L : List (Ky × Ds)} (s : StX n0 w hb ov ob tp cap fuel deep kd ext L) (k : Ky) : Calls Tryz.prog 242 #[.pointer (some ⟨ob, 9, none⟩), .agg (kArr k)] w fun e w' => e = .returned (.tuple #[.agg (dArr ((getL L k).getD Dc.d0)), .bool (getL L k).isSome]) ∧ Below w.heap.size w w' := by
  rcases s.tab with ⟨rfl, rfl, _⟩ | ⟨tb, mb, ev, rfl, h1, h2, ht, hLn⟩
  · go_enter Tryz.func242, Tryz.ntmps242
    go_wp2_with (first | ((with_reducible show wpList _ _ _ (⟨_, .box 40 _, _, _, _, _⟩ :: _) _ _); refine wpList_box_blk rfl 40 _ rfl (kArr k) rfl ?_; intro w0 hK hL hs0) | ((with_reducible show wpList _ _ _ (⟨_, .alloc 43, _, _, _, _⟩ :: _) _ _); refine wpList_alloc_blk rfl 43 rfl (dArr Dc.d0) zero43 ?_; intro w1 hR hL1 hs1; rw [hs0] at hR; have hK1 := hK.next hL1; have hLL := more hL hL1; have hcK1 := hK1.cellK; have s1 := s.below hLL; have hco := s1.o.cellO; clear hs1) | ((with_reducible show wpList _ _ _ (⟨_, .store 43 _ _, _, _, _, _⟩ :: _) _ _); refine wpList_store_blk rfl 43 _ _ rfl (w.heap.size + 1) (dArr Dc.d0) (dArr Dc.d0) 43 rfl rfl hR Tryz.size43 (Eq.refl 18) (dCells_one _) ?_; intro w9 hR9 hO9))
    exact bodyPost_ret (results_cell_tmp Tryz.results242 rfl hR9 Tryz.row43 Tryz.size43) rfl ⟨rfl, below_only hLL hO9 (by simp)⟩
  · go_enter Tryz.func242, Tryz.ntmps242
    go_wp2_with (first | ((with_reducible show wpList _ _ _ (⟨_, .box 40 _, _, _, _, _⟩ :: _) _ _); refine wpList_box_blk rfl 40 _ rfl (kArr k) rfl ?_; intro w0 hK hL hs0) | ((with_reducible show wpList _ _ _ (⟨_, .alloc 43, _, _, _, _⟩ :: _) _ _); refine wpList_alloc_blk rfl 43 rfl (dArr Dc.d0) zero43 ?_; intro w1 hR hL1 hs1; rw [hs0] at hR; have hK1 := hK.next hL1; have hLL := more hL hL1; have hcK1 := hK1.cellK; have s1 := s.below hLL; have hco := s1.o.cellO; clear hs1))
    refine Ord.region (fun W => ((W.cell? ⟨ob, 9, none⟩ = some (.pointer (some ⟨tb, 0, none⟩)) ∧ W.cell? ⟨w.heap.size, 0, none⟩ = some (.string k.str)) ∧ W.cell? ⟨w.heap.size, 1, none⟩ = some (.int .i64 k.sym))) [7, 9] (by kernel_rfl) ⟨⟨hco 9, hcK1 0⟩, hcK1 1⟩ ?_
    intro hS
    refine Ord.tp 0 12 rfl rfl ?_
    refine Ord.tp 1 13 rfl rfl ?_
    refine Ord.tp 2 14 rfl rfl ?_
    refine Ord.tp 3 15 rfl rfl ?_
    refine Ord.tp 4 16 rfl rfl ?_
    refine Ord.step (i := 5) rfl (by kernel_rfl) (by rfl) ?_
    intro K HK
    have ht1 := ht.next hLL
    go_simp
    go_at_call 251
    refine (tget_any n0 k tb mb ev L _ _ (ht1.next (Below.refl _ _).drew)).mono ?_
    rintro e w2 ⟨rfl, hb2⟩
    have hK2 := (show Blk w1.drew _ _ _ from hK1).next hb2
    have hR2 := (show Blk w1.drew _ _ _ from hR).next hb2
    have hco2 := ((s1.below (Below.refl _ _).drew).below hb2).o.cellO
    refine HK.out _ _ ?_
    clear HK
    refine Ord.kp ?_ ?_
    · exact ⟨⟨hco2 9, hK2.cellK 0⟩, hK2.cellK 1⟩
    clear hS
    intro hS
    try simp only [List.setIfInBounds_toArray, List.set_cons_zero, List.set_cons_succ]
    refine Ord.tp 6 18 rfl rfl ?_
    refine Ord.tf 7 19 rfl rfl ?_
    refine Ord.step (i := 8) rfl (by kernel_rfl) (by rfl) ?_
    intro K HK
    refine store_blk_op 43 (.tmp 4) (.tmp 18) rfl (w.heap.size + 1) (dArr ((getL L k).getD Dc.d0)) (dArr Dc.d0) 43 rfl rfl hR2 Tryz.size43 (Eq.refl 18) (dCells_one _) ?_
    intro w3 hR3 hO3
    refine HK.out _ _ ?_
    clear HK
    refine ⟨Ord.np (by kernel_rfl), ?_⟩
    try simp only [List.setIfInBounds_toArray, List.set_cons_zero, List.set_cons_succ]
    refine Ord.tf 9 5 rfl rfl ?_
    refine Ord.done (by kernel_rfl) ?_ _

    go_wp2
    exact bodyPost_ret (results_cell_tmp Tryz.results242 rfl hR3 Tryz.row43 Tryz.size43) rfl ⟨rfl, below_only (more hLL.drew hb2) hO3 (by simp)⟩


end Go.Proofs.YtoalboilghgalaaGreatDoor

/- The heap: Lies, and the properties: put; Lay. -/
namespace Go.Proofs.YtoalboilghgalaaGreatDoor
open Go.RowKit
open Go.Proofs.Dc (V Ds Ky)
attribute [local go_sem] run_store_float

theorem lies_any {n0 : Nat} {w : World} {hb : Nat} {ov : Value} {ob : Nat} {tp : Option Addr} {cap fuel deep : Int} {kd : Kd} {ext : Bool} {L : List (Ky × Ds)} (s : StX n0 w hb ov ob tp cap fuel deep kd ext L) (k : Ky) : Calls Tryz.prog 227 #[.pointer (some ⟨hb, 0, none⟩), .int .i64 1, .agg (kArr k)] w fun e w' => e = .returned (.tuple #[.agg (dArr ((getL L k).getD Dc.d0)), .bool (getL L k).isSome]) ∧ Below w.heap.size w w' := by
  go_enter Tryz.func227, Tryz.ntmps227
  go_wp2_with (first | ((with_reducible show wpList _ _ _ (⟨_, .box 40 _, _, _, _, _⟩ :: _) _ _); refine wpList_box_blk rfl 40 _ rfl (kArr k) rfl ?_; intro w0 hK hL hs0) | ((with_reducible show wpList _ _ _ (⟨_, .alloc 43, _, _, _, _⟩ :: _) _ _); refine wpList_alloc_blk rfl 43 rfl (dArr Dc.d0) zero43 ?_; intro w1 hR hL1 hs1; rw [hs0] at hR; have hK1 := hK.next hL1; have hLL := more hL hL1; have hcK1 := hK1.cellK; have s1 := s.below hLL; clear hs1))
  have s2 := s1.below (Below.refl _ _).drew
  refine Ord.region (fun W => (W.cell? ⟨w.heap.size, 0, none⟩ = some (.string k.str) ∧ W.cell? ⟨w.heap.size, 1, none⟩ = some (.int .i64 k.sym))) [8, 10] (by kernel_rfl) ⟨hcK1 0, hcK1 1⟩ ?_
  intro hS
  refine Ord.tp 0 8 rfl rfl ?_
  refine Ord.tp 1 9 rfl rfl ?_
  refine Ord.tp 5 13 rfl rfl ?_
  refine Ord.step (i := 2) rfl (by kernel_rfl) (by rfl) ?_
  intro K HK
  go_simp
  go_at_call 84
  refine (at_any s2).mono ?_
  rintro e w2 ⟨rfl, rfl⟩
  refine HK.out _ _ ?_
  clear HK
  refine Ord.kp ?_ ?_
  · exact hS
  clear hS
  intro hS
  try simp only [List.setIfInBounds_toArray, List.set_cons_zero, List.set_cons_succ]
  refine Ord.tp 3 11 rfl rfl ?_
  refine Ord.tp 4 12 rfl rfl ?_
  refine Ord.step (i := 6) rfl (by kernel_rfl) (by rfl) ?_
  intro K HK
  go_simp
  go_at_call 242
  refine (pget_any s2 k).mono ?_
  rintro e w2 ⟨rfl, hb2⟩
  have hK2 := (show Blk w1.drew _ _ _ from hK1).next hb2
  have hR2 := (show Blk w1.drew _ _ _ from hR).next hb2
  refine HK.out _ _ ?_
  clear HK
  refine Ord.kp ?_ ?_
  · exact ⟨hK2.cellK 0, hK2.cellK 1⟩
  clear hS
  intro hS
  try simp only [List.setIfInBounds_toArray, List.set_cons_zero, List.set_cons_succ]
  refine Ord.tp 7 15 rfl rfl ?_
  refine Ord.tf 8 16 rfl rfl ?_
  refine Ord.step (i := 9) rfl (by kernel_rfl) (by rfl) ?_
  intro K HK
  refine store_blk_op 43 (.tmp 6) (.tmp 15) rfl (w.heap.size + 1) (dArr ((getL L k).getD Dc.d0)) (dArr Dc.d0) 43 rfl rfl hR2 Tryz.size43 (Eq.refl 18) (dCells_one _) ?_
  intro w3 hR3 hO3
  refine HK.out _ _ ?_
  clear HK
  refine ⟨Ord.np (by kernel_rfl), ?_⟩
  try simp only [List.setIfInBounds_toArray, List.set_cons_zero, List.set_cons_succ]
  refine Ord.tf 10 7 rfl rfl ?_
  refine Ord.done (by kernel_rfl) ?_ _
  go_wp2
  exact bodyPost_ret (results_cell_tmp Tryz.results227 rfl hR3 Tryz.row43 Tryz.size43) rfl ⟨rfl, below_only (more hLL.drew hb2) hO3 (by simp)⟩

/-- the object's table is another -/
theorem StX.setTab {n0 : Nat} {W W' : World} {hb : Nat} {ov : Value} {ob : Nat} {tp tq : Option Addr} {cap fuel deep : Int} {kd : Kd} {ext : Bool} {L L' : List (Ky × Ds)} (s : StX n0 W hb ov ob tp cap fuel deep kd ext L)
    (h : Blk W' ob (oArr kd ext tq) 146) (ho : Only [ob] W W') {kd' : Kd} (hk : kd' = { kd with b := kd'.b }) (hbd : kd'.b ≤ 1000000) (ht : TabAt n0 W' tq L' (kd'.b - fuel - deep)) : StX n0 W' hb ov ob tq cap fuel deep kd' ext L' ∧ Keeps n0 W W' := by
  have h3 : Tryz.lays197_ren.g 3 ∉ [ob] := by simp; have := s.tn; have := s.on; omega
  have h4 : Tryz.lays197_ren.g 4 ∉ [ob] := by simp; have := s.tn; have := s.on; omega
  have e1 : kd'.dp = kd.dp := by rw [hk]
  have e2 : oArr kd' ext tq = oArr kd ext tq := by rw [hk]; rfl
  refine ⟨⟨by rw [e1]; exact s.h.only ho (by simpa using s.h.ne s.o (by decide)), ownsRow_only s.row ho (fun g hg => by simpa using ownsRow_ne s.row s.o (by decide) g hg), by rw [e2]; exact h, ht, s.hn, s.on, s.tabs.only ho h3 h4, s.tn, Nat.le_trans s.sz ho.size, ⟨hbd, s.bd.2⟩⟩, Keeps.of_only ho (fun b hb' => ?_) s.sz⟩
  obtain rfl : b = ob := by simpa using hb'
  exact ⟨s.on, .inr ⟨_, s.o, rfl⟩⟩
theorem tput_any (base : Nat) (k : Ky) (d : Ds) (tb mb : Nat) (ev : Value) (L : List (Ky × Ds)) (q : Int) (w : World) (hB : TabSt base w tb ev mb L q) (hT : Tabs w) (hg : kgood k = true) (hlen : q < 1000000) (hbs : base ≤ w.heap.size) :
    Calls Tryz.prog 137 #[.pointer (some ⟨tb, 0, none⟩), .agg (kArr k), .agg (dArr d)] w fun e w' => ∃ ev', e = .returned (.int .i64 0) ∧ TabSt base w' tb ev' mb (putL L k d) (q + 1) ∧ Only (tb :: mb :: ev.ownBlock.toList) w w' := by
  obtain ⟨E, M, last, hB, rfl, hq⟩ := hB
  cases h : findE E k with
  | none =>
    refine (tput_new base k d tb mb ev E M last w hB hT h hg (by omega) hbs).mono ?_
    rintro e w' ⟨ev', he, ht, ho⟩
    exact ⟨ev', he, ⟨_, _, _, ht, liveP_new d _ h, by omega⟩, ho⟩
  | some i =>
    refine (tput_old base k d tb mb ev E M last w hB hT i (findE_lt h) h hg).mono ?_
    rintro e w' ⟨ev', he, ht, ho⟩
    exact ⟨ev', he, ⟨_, _, _, ht, liveP_old E k d i (findE_lt h) h, by omega⟩, ho⟩
theorem TabG.base0 {b n0 : Nat} {W : World} {tb mb : Nat} (h : TabG b W tb (.slice none 0 0) mb [] [] 0) : TabG n0 W tb (.slice none 0 0) mb [] [] 0 := ⟨h.tab, ⟨rfl, .inl ⟨rfl, rfl⟩⟩, h.map, h.ok⟩
theorem TabG.st0 {n0 : Nat} {W : World} {tb mb : Nat} {q : Int} (h : TabG n0 W tb (.slice none 0 0) mb [] [] 0) (hq : 0 ≤ q) : TabSt n0 W tb (.slice none 0 0) mb [] q := ⟨[], [], 0, h, rfl, by omega⟩

theorem putL_ne (L : List (Ky × Ds)) (k : Ky) (d : Ds) : putL L k d ≠ [] := by
  cases L with
  | nil => simp [putL]
  | cons a r => simp only [putL]; split <;> simp
/-- behind a put, with the table there -/
def PutPost (n0 : Nat) (w : World) (hb : Nat) (ov : Value) (ob : Nat) (cap fuel deep : Int) (kd : Kd) (ext : Bool) (L : List (Ky × Ds)) (e : Ending) (w' : World) : Prop := e = .returned (.tuple #[]) ∧ ∃ tp', StX n0 w' hb ov ob tp' cap fuel deep kd ext L ∧ Keeps n0 w w'

theorem pput_any {n0 : Nat} {w : World} {hb : Nat} {ov : Value} {ob : Nat} {tp : Option Addr} {cap fuel deep : Int} {kd : Kd} {ext : Bool} {L : List (Ky × Ds)} (s : StX n0 w hb ov ob tp cap fuel deep kd ext L) (k : Ky) (d : Ds) (hg : kgood k = true) (hlen : kd.b < 1000000) : Calls Tryz.prog 102 #[.pointer (some ⟨ob, 9, none⟩), .agg (kArr k), .agg (dArr d)] w fun e w' => PutPost n0 w hb ov ob cap fuel deep kd.up ext (putL L k d) e w' := by
  have HN := Lib.hid (show kd.b - fuel - deep < 1000000 ∧ kd.up.b ≤ 1000000 ∧ kd.b - fuel - deep + 1 ≤ kd.up.b - fuel - deep from ⟨by have := s.bd; omega, by show kd.b + 1 ≤ _; omega, by show _ ≤ kd.b + 1 - fuel - deep; omega⟩)
  clear hlen
  rcases s.tab with ⟨rfl, rfl, h0q⟩ | ⟨tb, mb, ev, rfl, h1, h2, ht, hLn⟩
  · go_enter Tryz.func102, Tryz.ntmps102
    go_wp2_with (first | ((with_reducible show wpList _ _ _ (⟨_, .box 40 _, _, _, _, _⟩ :: _) _ _); refine wpList_box_blk rfl 40 _ rfl (kArr k) rfl ?_; intro w0 hK hL hs0) | ((with_reducible show wpList _ _ _ (⟨_, .box 43 _, _, _, _, _⟩ :: _) _ _); refine wpList_box_blk rfl 43 _ rfl (dArr d) rfl ?_; intro w1 hD hL1 hs1; rw [hs0] at hD; have hK1 := hK.next hL1; have hLL := more hL hL1; have hcK1 := hK1.cellK; have s1 := s.below hLL; have hco := s1.o.cellO; clear hs1) | (go_at_call 136; refine (tnew_any w1).mono ?_; rintro e w2 ⟨tb, mb, rfl, h1, h2, ht, hb2⟩; have hK2 := hK1.next hb2; have hD2 := hD.next hb2; have s2 := s1.below hb2; have hco2 := s2.o.cellO; have hfo2 := s2.o.frozen))
    have h3 := only_setCell (o := 9) (v := .pointer (some ⟨tb, 0, none⟩)) s2.o
    rw [set_tab] at h3
    have hlo := s1.o.lt
    have h1' : n0 ≤ tb := Nat.le_trans s1.sz h1
    have h2' : n0 ≤ mb := Nat.le_trans s1.sz h2
    have hne : tb ≠ ob := by omega
    have hnm : mb ≠ ob := by omega
    have ht3 := ((TabG.base0 (n0 := n0) ht).only h3.2 (by simpa using hne) (by simpa using hnm) (by intro g hg; cases hg)).st0 h0q
    have hOn : Only [ob] w1 _ := (Only.of_below hb2).trans h3.2
    have hB3 := h3.1
    have hT3 := s2.tabs.only h3.2 (by have := s2.tn; have := s2.on; simp; omega) (by have := s2.tn; have := s2.on; simp; omega)
    have hK3 := hK2.only h3.2 (by have := s.o.lt; simp; omega)
    have hD3 := hD2.only h3.2 (by have := s.o.lt; simp; omega)
    clear h3 hco hcK1 hco2 hfo2 ht
    rename_i h1x
    generalize w2.setCell ⟨ob, 9, none⟩ (.pointer (some ⟨tb, 0, none⟩)) = w3 at hOn hB3 hT3 hK3 hD3 ht3 ⊢
    have hcoX := hB3.cellO
    have hcKX := hK3.cellK
    go_wp2
    refine Ord.region (fun W => ((W.cell? ⟨ob, 9, none⟩ = some (.pointer (some ⟨tb, 0, none⟩)) ∧ W.cell? ⟨w.heap.size, 0, none⟩ = some (.string k.str)) ∧ W.cell? ⟨w.heap.size, 1, none⟩ = some (.int .i64 k.sym)) ∧ Blk W (w.heap.size + 1) (dArr d) 43) [] (by kernel_rfl) ⟨⟨⟨hcoX 9, hcKX 0⟩, hcKX 1⟩, hD3⟩ ?_
    intro hS
    refine Ord.tp 0 15 rfl rfl ?_
    refine Ord.tp 1 16 rfl rfl ?_
    refine Ord.tp 2 17 rfl rfl ?_
    refine Ord.tp 3 18 rfl rfl ?_
    refine Ord.tp 4 19 rfl rfl ?_
    refine Ord.tk 5 20 rfl rfl (yieldsIf_load_mid (by rfl) 43 _ rfl (w.heap.size + 1) 0 rfl [.int .i64 d.val.kind, .bool d.val.bool, .float .f64 d.val.num, .string d.val.str, .int .i64 d.val.id, .int .i64 d.get.kind, .bool d.get.bool, .float .f64 d.get.num, .string d.get.str, .int .i64 d.get.id, .int .i64 d.set.kind, .bool d.set.bool, .float .f64 d.set.num, .string d.set.str, .int .i64 d.set.id, .int .i64 d.w, .int .i64 d.e, .int .i64 d.c] _ (fun W hSW => range_d hSW.2) Tryz.underlying43 rfl Tryz.size43) ?_
    refine Ord.step (i := 6) rfl (by kernel_rfl) (by rfl) ?_
    intro K HK
    have hTD := hT3.below (Below.refl _ _).drew
    have hO13 : Only [ob] w1 w3.drew := hOn.trans (Only.of_below (Below.refl _ _).drew)
    have htt := (ht3).next (Below.refl _ _).drew
    go_simp
    go_at_call 137
    refine (tput_any n0 k d tb mb (.slice none 0 0) [] _ _ htt hTD hg HN.out.1 (Nat.le_trans s1.sz hO13.size)).mono ?_
    rintro e w9 ⟨ev', rfl, ht9, hO9⟩
    have hO19 : Only [ob] w1 w9 := hO13.then hO9 (by intro x hx; rcases List.mem_cons.1 hx with rfl | hx; exact .inr h1; rcases List.mem_cons.1 hx with rfl | hx; exact .inr h2; cases hx)
    have hB9 := (hB3.next (Below.refl _ _).drew).only hO9 (by intro hx; rcases List.mem_cons.1 hx with e | hx; exact hne e.symm; rcases List.mem_cons.1 hx with e | hx; exact hnm e.symm; cases hx)
    obtain ⟨s9, k9⟩ := s1.setTab hB9 hO19 (kd' := kd.up) rfl HN.out.2.1 (.inr ⟨tb, mb, ev', rfl, h1', h2', ht9.mono HN.out.2.2, putL_ne _ _ _⟩)
    refine HK.out _ _ ?_
    clear HK
    refine ⟨Ord.np (by kernel_rfl), ?_⟩
    try simp only [List.setIfInBounds_toArray, List.set_cons_zero, List.set_cons_succ]
    refine Ord.done (by kernel_rfl) ?_ _
    clear hS hcoX hcKX
    go_wp2
    go_end0
    exact ⟨rfl, _, s9, (Keeps.of_below hLL s.sz).trans k9⟩
  · go_enter Tryz.func102, Tryz.ntmps102
    go_wp2_with (first | ((with_reducible show wpList _ _ _ (⟨_, .box 40 _, _, _, _, _⟩ :: _) _ _); refine wpList_box_blk rfl 40 _ rfl (kArr k) rfl ?_; intro w0 hK hL hs0) | ((with_reducible show wpList _ _ _ (⟨_, .box 43 _, _, _, _, _⟩ :: _) _ _); refine wpList_box_blk rfl 43 _ rfl (dArr d) rfl ?_; intro w1 hD hL1 hs1; rw [hs0] at hD; have hK1 := hK.next hL1; have hLL := more hL hL1; have hcK1 := hK1.cellK; have s1 := s.below hLL; have hco := s1.o.cellO; clear hs1))
    have hcoX := hco
    have hcKX := hcK1
    clear hco hcK1
    refine Ord.region (fun W => ((W.cell? ⟨ob, 9, none⟩ = some (.pointer (some ⟨tb, 0, none⟩)) ∧ W.cell? ⟨w.heap.size, 0, none⟩ = some (.string k.str)) ∧ W.cell? ⟨w.heap.size, 1, none⟩ = some (.int .i64 k.sym)) ∧ Blk W (w.heap.size + 1) (dArr d) 43) [] (by kernel_rfl) ⟨⟨⟨hcoX 9, hcKX 0⟩, hcKX 1⟩, hD⟩ ?_
    intro hS
    refine Ord.tp 0 15 rfl rfl ?_
    refine Ord.tp 1 16 rfl rfl ?_
    refine Ord.tp 2 17 rfl rfl ?_
    refine Ord.tp 3 18 rfl rfl ?_
    refine Ord.tp 4 19 rfl rfl ?_
    refine Ord.tk 5 20 rfl rfl (yieldsIf_load_mid (by rfl) 43 _ rfl (w.heap.size + 1) 0 rfl [.int .i64 d.val.kind, .bool d.val.bool, .float .f64 d.val.num, .string d.val.str, .int .i64 d.val.id, .int .i64 d.get.kind, .bool d.get.bool, .float .f64 d.get.num, .string d.get.str, .int .i64 d.get.id, .int .i64 d.set.kind, .bool d.set.bool, .float .f64 d.set.num, .string d.set.str, .int .i64 d.set.id, .int .i64 d.w, .int .i64 d.e, .int .i64 d.c] _ (fun W hSW => range_d hSW.2) Tryz.underlying43 rfl Tryz.size43) ?_
    refine Ord.step (i := 6) rfl (by kernel_rfl) (by rfl) ?_
    intro K HK
    have st := (s1).below (Below.refl _ _).drew
    have htt := (ht.next hLL).next (Below.refl _ _).drew
    go_simp
    go_at_call 137
    refine (tput_any n0 k d tb mb ev L _ _ htt st.tabs hg HN.out.1 st.sz).mono ?_
    rintro e w9 ⟨ev', rfl, ht9, hO9⟩
    obtain ⟨s9, k9⟩ := st.table htt ⟨h1, h2⟩ h2 (kd' := kd.up) rfl HN.out.2.1 (ht9.mono HN.out.2.2) hO9 hLn (putL_ne _ _ _)
    refine HK.out _ _ ?_
    clear HK
    refine ⟨Ord.np (by kernel_rfl), ?_⟩
    try simp only [List.setIfInBounds_toArray, List.set_cons_zero, List.set_cons_succ]
    refine Ord.done (by kernel_rfl) ?_ _
    clear hS hcoX hcKX
    go_wp2
    go_end0
    exact ⟨rfl, _, s9, ((Keeps.of_below hLL s.sz).trans (Keeps.of_below (Below.refl _ _).drew s1.sz)).trans k9⟩


end Go.Proofs.YtoalboilghgalaaGreatDoor

/- The heap: Lay; an ordinary object: DefineOwnProperty. -/
namespace Go.Proofs.YtoalboilghgalaaGreatDoor
open Go.RowKit
open Go.Proofs.Dc (V Ds Ky)
attribute [local go_sem] run_store_float

theorem lay_any {n0 : Nat} {w : World} {hb : Nat} {ov : Value} {ob : Nat} {tp : Option Addr} {cap fuel deep : Int} {kd : Kd} {ext : Bool} {L : List (Ky × Ds)} (s : StX n0 w hb ov ob tp cap fuel deep kd ext L) (k : Ky) (d : Ds) (hg : kgood k = true) (hlen : kd.b < 1000000) : Calls Tryz.prog 51 #[.pointer (some ⟨hb, 0, none⟩), .int .i64 1, .agg (kArr k), .agg (dArr d)] w fun e w' => PutPost n0 w hb ov ob cap fuel deep kd.up ext (putL L k d) e w' := by
  have HN := Lib.hid hlen
  clear hlen
  go_enter Tryz.func51, Tryz.ntmps51
  go_wp2_with (first | ((with_reducible show wpList _ _ _ (⟨_, .box 40 _, _, _, _, _⟩ :: _) _ _); refine wpList_box_blk rfl 40 _ rfl (kArr k) rfl ?_; intro w0 hK hL hs0) | ((with_reducible show wpList _ _ _ (⟨_, .box 43 _, _, _, _, _⟩ :: _) _ _); refine wpList_box_blk rfl 43 _ rfl (dArr d) rfl ?_; intro w1 hD hL1 hs1; rw [hs0] at hD; have hK1 := hK.next hL1; have hLL := more hL hL1; have hcK1 := hK1.cellK; have s1 := s.below hLL; clear hs1))
  simp only [hs0, Act.put, List.setIfInBounds_toArray, List.set_cons_zero, List.set_cons_succ]
  have s2 := s1.below (Below.refl _ _).drew
  refine Ord.region (fun W => (W.cell? ⟨w.heap.size, 0, none⟩ = some (.string k.str) ∧ W.cell? ⟨w.heap.size, 1, none⟩ = some (.int .i64 k.sym)) ∧ Blk W (w.heap.size + 1) (dArr d) 43) [] (by kernel_rfl) ⟨⟨hcK1 0, hcK1 1⟩, hD⟩ ?_
  intro hS
  refine Ord.tp 0 8 rfl rfl ?_
  refine Ord.tp 1 9 rfl rfl ?_
  refine Ord.tp 5 13 rfl rfl ?_
  refine Ord.tk 6 14 rfl rfl (yieldsIf_load_mid (by rfl) 43 _ rfl (w.heap.size + 1) 0 rfl [.int .i64 d.val.kind, .bool d.val.bool, .float .f64 d.val.num, .string d.val.str, .int .i64 d.val.id, .int .i64 d.get.kind, .bool d.get.bool, .float .f64 d.get.num, .string d.get.str, .int .i64 d.get.id, .int .i64 d.set.kind, .bool d.set.bool, .float .f64 d.set.num, .string d.set.str, .int .i64 d.set.id, .int .i64 d.w, .int .i64 d.e, .int .i64 d.c] _ (fun W hSW => range_d hSW.2) Tryz.underlying43 rfl Tryz.size43) ?_
  refine Ord.step (i := 2) rfl (by kernel_rfl) (by rfl) ?_
  intro K HK
  go_simp
  go_at_call 84
  refine (at_any s2).mono ?_
  rintro e w2 ⟨rfl, rfl⟩
  refine HK.out _ _ ?_
  clear HK
  refine Ord.kp ?_ ?_
  · exact hS
  clear hS
  intro hS
  try simp only [List.setIfInBounds_toArray, List.set_cons_zero, List.set_cons_succ]
  refine Ord.tp 3 11 rfl rfl ?_
  refine Ord.tp 4 12 rfl rfl ?_
  refine Ord.step (i := 7) rfl (by kernel_rfl) (by rfl) ?_
  intro K HK
  go_simp
  go_at_call 102
  refine (pput_any s2 k d hg HN.out).mono ?_
  rintro e w9 ⟨rfl, tp', s9, k9⟩
  refine HK.out _ _ ?_
  clear HK
  refine ⟨Ord.np (by kernel_rfl), ?_⟩
  try simp only [List.setIfInBounds_toArray, List.set_cons_zero, List.set_cons_succ]
  refine Ord.done (by kernel_rfl) ?_ _
  clear hS hcK1
  go_wp2
  go_end0
  exact ⟨rfl, tp', s9, ((Keeps.of_below hLL s.sz).trans (Keeps.of_below (Below.refl _ _).drew s1.sz)).trans k9⟩

theorem Nums.d0 : Nums Dc.d0 := ⟨by decide, by decide, by decide⟩
theorem zero_d0 : Dc.zero Dc.d0 = true := by simp [Dc.zero, Dc.d0, Dc.absent_v0]
theorem apply_any (ext : Bool) (n d : Ds) (w : World) (hT : Tabs w) (hn : Nums n) (hd : Nums d) (hk : Dc.kindB uvalid d = true) (hw : Dc.zero n = true ∨ Dc.Whole uvalid n) : Calls Tryz.prog 220 #[.bool ext, .agg (dArr n), .agg (dArr d)] w fun e w' =>
    e = .returned (.tuple #[.agg (dArr (Dc.apply uvalid ext n d).1), .bool (Dc.apply uvalid ext n d).2, .int .i64 0]) ∧ Below w.heap.size w w' := by
  rcases hw with h | h
  · exact apply_zero ext n d w hT hn hd hk h
  · exact apply_whole ext n d w hT hn hd hk h
/-- all numbers are numbers -/
def LNums (L : List (Ky × Ds)) : Prop := ∀ p ∈ L, Nums p.2
theorem LNums.get {L : List (Ky × Ds)} (h : LNums L) (k : Ky) : Nums ((getL L k).getD Dc.d0) := by
  cases e : getL L k with
  | none => exact Nums.d0
  | some d => obtain ⟨p, hp, rfl⟩ := get_mem e; exact h p hp
theorem LOk.now {L : List (Ky × Ds)} (h : LOk L) (k : Ky) : Dc.zero ((getL L k).getD Dc.d0) = true ∨ Dc.Whole uvalid ((getL L k).getD Dc.d0) := by
  cases e : getL L k with
  | none => exact .inl zero_d0
  | some d => exact .inr (h.get e)
/-- what DefineOwnProperty leaves -/
def defL (ext : Bool) (L : List (Ky × Ds)) (k : Ky) (d : Ds) : List (Ky × Ds) := if (Dc.apply uvalid ext ((getL L k).getD Dc.d0) d).2 then putL L k (Dc.apply uvalid ext ((getL L k).getD Dc.d0) d).1 else L
def defB (ext : Bool) (L : List (Ky × Ds)) (k : Ky) (d : Ds) : Bool := (Dc.apply uvalid ext ((getL L k).getD Dc.d0) d).2
def DefPost (n0 : Nat) (w : World) (hb : Nat) (ov : Value) (ob : Nat) (cap fuel deep : Int) (kd : Kd) (ext : Bool) (b : Bool) (L : List (Ky × Ds)) (e : Ending) (w' : World) : Prop := e = .returned (.tuple #[.bool b, .nilIface]) ∧ ∃ tp', StX n0 w' hb ov ob tp' cap fuel deep kd ext L ∧ Keeps n0 w w'


end Go.Proofs.YtoalboilghgalaaGreatDoor

/- What a walk above the heap holds of the world: the heap's state, the caller's blocks that it knows, and what is kept. -/
namespace Go.Proofs.YtoalboilghgalaaGreatDoor
open Go.RowKit
open Go.Proofs.Dc (V Ds Ky)

section
variable {P : Program} {o : Oper} {a : Act} {W : World} {K : Act → World → Prop} {Q : Exit → Act → World → Prop}
theorem run_load1 (ty : TypeId) (b j : Nat) (v : Value) (hA : (isAgg ty).run P W = .ok false W) (hc : W.cell? ⟨b, j, none⟩ = some v) : (loadVar ty ⟨b, j, none⟩).run P W = .ok v W := by
  simp [loadVar, Sem.run_bind, hA, Result.andThen_ok, run_load, hc]
theorem load1_op (ty : TypeId) (x : Operand) (ho : o.op = .load ty x) (b j : Nat) (hx : a.eval x = .pointer (some ⟨b, j, none⟩)) (v : Value) (hA : (isAgg ty).run P W = .ok false W) (hc : W.cell? ⟨b, j, none⟩ = some v) (h : K (a.put o.dst v) W) : o.wp P a W K Q := by
  unfold Oper.wp execOp
  simp only [ho, hx, Instr.loadAt, Instr.sureAddr, Sem.run_bind, Sem.run_pure, Result.andThen_ok, run_load1 ty b j v hA hc]
  exact h
theorem wpList_load1 {ops : Array Oper} {rest : List Oper} (hw : Region.wanted o (yielded ops a.tmps) = true) (ty : TypeId) (x : Operand) (ho : o.op = .load ty x) (b j : Nat) (hx : a.eval x = .pointer (some ⟨b, j, none⟩)) (v : Value) (hA : (isAgg ty).run P W = .ok false W) (hc : W.cell? ⟨b, j, none⟩ = some v)
    (h : wpList P ops Q rest (a.put o.dst v) W) : wpList P ops Q (o :: rest) a W := by
  rw [wpList, if_pos hw]
  exact .inl (load1_op ty x ho b j hx v hA hc h)
theorem yields_load1 {ops : Array Oper} {S : World → Prop} (hw : Region.wanted o (yielded ops a.tmps) = true) (ty : TypeId) (x : Operand) (ho : o.op = .load ty x) (b j : Nat) (hx : a.eval x = .pointer (some ⟨b, j, none⟩)) (v : Value) (hA : ∀ W, (isAgg ty).run P W = .ok false W) (hc : ∀ W, S W → W.cell? ⟨b, j, none⟩ = some v) : YieldsIf P ops S o v a :=
  .inl ⟨hw, fun W hS => by
    unfold execOp
    simp only [ho, hx, Instr.loadAt, Instr.sureAddr, Sem.run_bind, Sem.run_pure, Result.andThen_ok, run_load1 ty b j v (hA W) (hc W hS)]⟩
theorem run_box1 (w : World) (ty : TypeId) (v : Value) (hC : v.cells = #[v]) : (Instr.box ty v).run P w = .ok (.pointer (some ⟨w.heap.size, 0, none⟩)) (w.alloc (.cells #[v] ty)) := by
  unfold Value.cells at hC
  simp [Instr.box, newVar, go_sem, Value.cells, hC]
theorem wpList_box1 {ops : Array Oper} {rest : List Oper} (hgd : o.guard = none) (ty : TypeId) (x : Operand) (ho : o.op = .box ty x) (v : Value) (hx : a.eval x = v) (hC : v.cells = #[v])
    (h : ∀ W', Blk W' W.heap.size #[v] ty → Below W.heap.size W W' → W'.heap.size = W.heap.size + 1 → wpList P ops Q rest (a.put o.dst (.pointer (some ⟨W.heap.size, 0, none⟩))) W') : wpList P ops Q (o :: rest) a W :=
  wpList_plain hgd fun _ hK => by
    unfold Oper.wp execOp
    simp only [ho, hx, Sem.run_bind, run_box1 W ty v hC, Result.andThen_ok, Sem.run_pure]
    exact hK _ _ (h _ (Blk.new _ _ _) (one _ _) (by simp))
theorem range_all {b : Nat} {C : Array Value} {t : TypeId} (h : Blk W b C t) : W.rangeAt b 0 C.toList := fun j v hv => by
  rw [h.cell, Nat.zero_add]; simpa using hv
theorem alloc_op (ty : TypeId) (ho : o.op = .alloc ty) (Z : Array Value) (hz : ∀ w, (zeroValue ty).run P w = .ok (.agg Z) w) (h : ∀ W' b, Blk W' b Z ty → b = W.heap.size → Below W.heap.size W W' → K (a.put o.dst (.pointer (some ⟨b, 0, none⟩))) W') : o.wp P a W K Q := by
  unfold Oper.wp execOp
  simp [ho, Instr.alloc, hz, newVar, Value.cells, go_sem]
  exact h _ _ (Blk.new _ _ _) rfl (one _ _)
end

/-- the known blocks -/
abbrev Bls := List (Nat × Array Value × TypeId)

structure Bag (n0 : Nat) (w : World) (W : World) (hb : Nat) (ov : Value) (ob : Nat) (tp : Option Addr) (cap fuel deep : Int) (kd : Kd) (ext : Bool) (L : List (Ky × Ds)) (Bs : Bls) : Prop where
  s : StX n0 W hb ov ob tp cap fuel deep kd ext L
  k : Keeps n0 w W
  bl : ∀ x ∈ Bs, Blk W x.1 x.2.1 x.2.2 ∧ Mine (.cells x.2.1 x.2.2) = false
  nd : (Bs.map (·.1)).Nodup
  n : n0 ≤ w.heap.size

section
variable {n0 : Nat} {w W W' : World} {hb : Nat} {ov : Value} {ob : Nat} {tp tp' : Option Addr} {cap fuel deep fuel' deep' : Int} {kd : Kd} {ext ext' : Bool} {L L' : List (Ky × Ds)} {Bs : Bls}

theorem Bag.start (s : StX n0 w hb ov ob tp cap fuel deep kd ext L) : Bag n0 w w hb ov ob tp cap fuel deep kd ext L [] := ⟨s, Keeps.refl _ _, by simp, by simp, s.sz⟩
theorem Bag.next (h : Bag n0 w W hb ov ob tp cap fuel deep kd ext L Bs) (hq : Below W.heap.size W W') : Bag n0 w W' hb ov ob tp cap fuel deep kd ext L Bs :=
  ⟨h.s.below hq, h.k.trans (Keeps.of_below hq h.s.sz), fun x hx => ⟨(h.bl x hx).1.next hq, (h.bl x hx).2⟩, h.nd, h.n⟩
theorem Bag.drew (h : Bag n0 w W hb ov ob tp cap fuel deep kd ext L Bs) : Bag n0 w W.drew hb ov ob tp cap fuel deep kd ext L Bs := h.next (Below.refl _ _).drew
theorem Bag.go {kd' : Kd} (h : Bag n0 w W hb ov ob tp cap fuel deep kd ext L Bs) (s : StX n0 W' hb ov ob tp' cap fuel' deep' kd' ext' L') (k : Keeps n0 W W') : Bag n0 w W' hb ov ob tp' cap fuel' deep' kd' ext' L' Bs :=
  ⟨s, h.k.trans k, fun x hx => ⟨(h.bl x hx).1.keeps k (h.bl x hx).2, (h.bl x hx).2⟩, h.nd, h.n⟩
theorem Bag.push (h : Bag n0 w W hb ov ob tp cap fuel deep kd ext L Bs) (hq : Below W.heap.size W W') {b : Nat} {C : Array Value} {t : TypeId} (hB : Blk W' b C t) (hbe : W.heap.size ≤ b) (hm : Mine (.cells C t) = false) : Bag n0 w W' hb ov ob tp cap fuel deep kd ext L ((b, C, t) :: Bs) := by
  have h' := h.next hq
  refine ⟨h'.s, h'.k, fun x hx => ?_, ?_, h.n⟩
  · rcases List.mem_cons.1 hx with rfl | hx
    · exact ⟨hB, hm⟩
    · exact h'.bl x hx
  · rw [List.map_cons, List.nodup_cons]
    refine ⟨fun hm => ?_, h.nd⟩
    obtain ⟨x, hx, he⟩ := List.mem_map.1 hm
    have := (h.bl x hx).1.lt
    rw [he] at this; dsimp only at this; omega
theorem Bag.blk (h : Bag n0 w W hb ov ob tp cap fuel deep kd ext L Bs) (i : Nat) {b : Nat} {C : Array Value} {t : TypeId} (hi : Bs[i]? = some (b, C, t)) : Blk W b C t := (h.bl (b, C, t) (List.mem_of_getElem? hi)).1
theorem Bag.lt (h : Bag n0 w W hb ov ob tp cap fuel deep kd ext L Bs) (i : Nat) {b : Nat} {C : Array Value} {t : TypeId} (hi : Bs[i]? = some (b, C, t)) : b < W.heap.size := (h.blk i hi).lt
/-- a block that the caller had is known too -/
theorem Bag.have (h : Bag n0 w w hb ov ob tp cap fuel deep kd ext L Bs) {b : Nat} {C : Array Value} {t : TypeId} (hB : Blk w b C t) (hm : Mine (.cells C t) = false) (hn : ∀ x ∈ Bs, x.1 ≠ b) : Bag n0 w w hb ov ob tp cap fuel deep kd ext L ((b, C, t) :: Bs) :=
  ⟨h.s, h.k, fun x hx => by
    rcases List.mem_cons.1 hx with rfl | hx
    · exact ⟨hB, hm⟩
    · exact h.bl x hx, by
    rw [List.map_cons, List.nodup_cons]
    refine ⟨fun hm => ?_, h.nd⟩
    obtain ⟨x, hx, he⟩ := List.mem_map.1 hm
    exact hn x hx he, h.n⟩

theorem StX.free {b : Nat} {C : Array Value} {t : TypeId} (s : StX n0 W hb ov ob tp cap fuel deep kd ext L) (hB : Blk W b C t) (hm : Mine (.cells C t) = false) (ho : Only [b] W W') (hn : n0 ≤ b) : StX n0 W' hb ov ob tp cap fuel deep kd ext L := by
  have ht : t ≠ 102 ∧ t ≠ 146 ∧ t ≠ 138 ∧ t ≠ 229 ∧ t ≠ 245 := by
    simp only [Mine, Bool.or_eq_false_iff, beq_eq_false_iff_ne, ne_eq] at hm
    exact ⟨hm.1.1.1.1, hm.1.1.1.2, hm.1.1.2, hm.1.2, hm.2⟩
  refine ⟨s.h.only ho (by simpa using s.h.ne hB (Ne.symm ht.1)), ownsRow_only s.row ho (fun g hg => by simpa using ownsRow_ne s.row hB (Ne.symm ht.2.2.1) g hg), s.o.only ho (by simpa using s.o.ne hB (Ne.symm ht.2.1)), s.tab.only ho (fun b' hb' => ?_), s.hn, s.on,
    s.tabs.only ho (by have := s.tn; simp; omega) (by have := s.tn; simp; omega), s.tn, Nat.le_trans s.sz ho.size, s.bd⟩
  obtain rfl : b' = b := by simpa using hb'
  exact ⟨C, t, hB, ht.2.2.2.1, ht.2.2.2.2⟩
/-- one of the call's own blocks is written -/
theorem Bag.set (h : Bag n0 w W hb ov ob tp cap fuel deep kd ext L Bs) (i : Nat) {b : Nat} {C C' : Array Value} {t : TypeId} (hi : Bs[i]? = some (b, C, t)) (ho : Only [b] W W') (hB : Blk W' b C' t) (hw : w.heap.size ≤ b) : Bag n0 w W' hb ov ob tp cap fuel deep kd ext L (Bs.set i (b, C', t)) := by
  have hm := (h.bl _ (List.mem_of_getElem? hi)).2
  have hlt : i < Bs.length := (List.getElem?_eq_some_iff.1 hi).1
  have hm' : Mine (.cells C' t) = false := hm
  refine ⟨h.s.free (h.blk i hi) hm ho (Nat.le_trans h.n hw), ⟨h.k.below.trans ((ho.below b (Nat.le_of_lt (h.lt i hi)) (by simp)).mono (Nat.le_trans h.n hw)), fun k o hk hmo => ?_⟩, fun x hx => ?_, ?_, h.n⟩
  · have hk' := h.k.free k o hk hmo
    have hlt' := (Array.getElem?_eq_some_iff.1 hk).1
    exact (ho.block k (Array.getElem?_eq_some_iff.1 hk').1 (by simp; omega)).trans hk'
  · obtain ⟨j, hj⟩ := List.mem_iff_getElem?.1 hx
    rw [List.getElem?_set] at hj
    by_cases e : i = j
    · subst e
      rw [if_pos rfl, if_pos hlt] at hj
      obtain rfl : (b, C', t) = x := by simpa using hj
      exact ⟨hB, hm'⟩
    · rw [if_neg e] at hj
      have hx' := h.bl x (List.mem_of_getElem? hj)
      refine ⟨hx'.1.only ho ?_, hx'.2⟩
      have h1 : (Bs.map (·.1))[i]? = some b := by simp [hi]
      have h2 : (Bs.map (·.1))[j]? = some x.1 := by simp [hj]
      intro hm
      have : x.1 = b := by simpa using hm
      rw [this] at h2
      exact e ((List.getElem?_inj (by simpa using hlt) h.nd).1 (h1.trans h2.symm))
  · have : (Bs.set i (b, C', t)).map (·.1) = Bs.map (·.1) := by
      apply List.ext_getElem?
      intro j
      rw [List.map_set, List.getElem?_set]
      by_cases e : i = j
      · subst e; simp [hlt, (List.getElem?_eq_some_iff.1 hi).2]
      · rw [if_neg e]
    rw [this]; exact h.nd
/-- these blocks lie there -/
def Has (W : World) (Bs : Bls) : Prop := ∀ x ∈ Bs, Blk W x.1 x.2.1 x.2.2
theorem Has.blk (h : Has W Bs) (i : Nat) {b : Nat} {C : Array Value} {t : TypeId} (hi : Bs[i]? = some (b, C, t)) : Blk W b C t := h (b, C, t) (List.mem_of_getElem? hi)
theorem Bag.has {Bs' : Bls} (h : Bag n0 w W hb ov ob tp cap fuel deep kd ext L Bs) (hs : ∀ x ∈ Bs', x ∈ Bs) : Has W Bs' := fun x hx => (h.bl x (hs x hx)).1
end
end Go.Proofs.YtoalboilghgalaaGreatDoor
