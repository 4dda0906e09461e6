/- Lemmas for this claim, in parts: Props2. -/
import Derived.Test.YtoalboilghgalaaGreatDoorC27
set_option maxRecDepth 100000
set_option maxHeartbeats 4000000
set_option linter.unusedVariables false
set_option linter.unusedSimpArgs false
/- table.Props. -/
namespace Go.Proofs.YtoalboilghgalaaGreatDoor
open Go.RowKit
open Go.Proofs.Dc (V Ds Ky)
attribute [local go_sem] run_store_float

attribute [local go_sem] Oper.semAt_some
/-- what the collecting loop holds: the variable, its row -/
structure PropSt (w W : World) (b3 : Nat) (pre : List (Ky × Ds)) (g cap : Nat) : Prop where
  v : Blk W b3 #[.slice (some ⟨g, 0, none⟩) pre.length cap] 22
  row : RowAt W w.heap.size 45 20 g pre.length cap (pAll pre)
  b : Below w.heap.size w W
  b3l : w.heap.size ≤ b3
theorem Blk.grown45 {W W' : World} {b : Nat} {v : Value} {g n c cap base size : Nat} {C : Array Value} {xs : List Value} (h : Blk W b #[v] 22) (hg : (W.alloc (.cells C 45)).grownBy W' (Value.slice (some ⟨g, 0, none⟩) n c).ownBlock) (hr : RowAt W base 45 size g n cap xs) : Blk W' b #[v] 22 := by
  refine (hg.block b (h.alloc _).lt fun e => ?_).trans (h.alloc _)
  obtain ⟨cur, h1, _⟩ := hr.lies
  have hne := h.ne h1 (by decide)
  simp only [Value.ownBlock, Option.some.injEq] at e
  exact hne e
theorem keep_below {W W' : World} (h : Below W.heap.size W W') : Keep245 W W' := fun _ _ _ _ hk => hk.next h
theorem zero40 (w : World) : (zeroValue 40).run Tryz.prog w = .ok (.agg (kArr ⟨⟨#[]⟩, 0⟩)) w := by kernel_rfl
theorem kArr_one (k : Ky) : (kArr k).all (·.oneCell') = true := by simp [kArr, Value.oneCell']
theorem keepsFrom_below {W W' : World} (h : Below W.heap.size W W') (B : Nat) : KeepsFrom B W W' := ⟨h.size, fun k o _ hk _ => (h.block k (Array.getElem?_eq_some_iff.1 hk).1).trans hk⟩
theorem each_any (tb : Nat) (w : World) : Calls Tryz.prog 153 #[.pointer (some ⟨tb, 0, none⟩)] w fun e w' => e = .returned (.func (.func 177) #[] #[.pointer (some ⟨w.heap.size, 0, none⟩)]) ∧ Blk w' w.heap.size #[.pointer (some ⟨tb, 0, none⟩)] 142 ∧ Below w.heap.size w w' := by
  go_enter Tryz.func153, Tryz.ntmps153
  go_wp2_with (((with_reducible show wpList _ _ _ (⟨_, .box 142 _, _, _, _, _⟩ :: _) _ _); refine wpList_box1 rfl 142 _ rfl (.pointer (some ⟨tb, 0, none⟩)) rfl rfl ?_; intro wa hB hL hs; clear hs))
  go_ret
  exact ⟨rfl, hB, hL⟩
theorem each_stops (n : Nat) (hn1 : 1 ≤ n) (Bn n₀ base tb mb : Nat) (ev : Value) (E : List GE) (M : List (Ky × Nat)) (last : Nat) (hl : last ≤ 1000000) (L : List (Ky × Ds)) (hL : liveP E = L) (w : World) (hn₀ : n₀ ≤ w.heap.size) (hT : TabG base w tb ev mb E M last) (hlow : tb < n₀ ∧ mb < n₀ ∧ (∀ g, ev.ownBlock = some g → g < n₀)) (hBn : Blk w Bn #[.pointer (some ⟨tb, 0, none⟩)] 142) :
    SeqStopsK Fence.wide n Tryz.prog 177 #[.pointer (some ⟨Bn, 0, none⟩)] (fun x : Ky × Ds => #[.agg (kArr x.1), .agg (dArr x.2)]) (KpT n₀) (fun ys => ys = L) (fun pre => pre <+: L) L.length w := fun l J Jx W hW hJ _ hY h0 => by
  subst hL
  exact each1_in n l Bn n₀ base tb mb ev E M last (live E) rfl hl J Jx W (Nat.le_trans hn₀ hW.size) hn1 (hT.below hW) hlow (hBn.next hW) hJ (by unfold liveP at hY; simpa only [List.length_map] using hY) h0

theorem below_grown0' {W W' : World} (h : W.grownBy W' none) : Below W.heap.size W W' := ⟨h.os, h.tape, h.output, h.size, fun k hk => h.block k hk (fun e => by cases e)⟩
theorem zero22 (w : World) : (zeroValue 22).run Tryz.prog w = .ok (.slice none 0 0) w := by kernel_rfl
theorem Tryz.size22 : (Tryz.prog.info? 22).map (·.size) = some 1 := by kernel_rfl

theorem props_in (n base tb mb : Nat) (ev : Value) (E : List GE) (M : List (Ky × Nat)) (last : Nat) (hla : last ≤ 1000000) (L : List (Ky × Ds)) (hLE : liveP E = L) (w : World) (hn : 4 ≤ n) (hT : TabG base w tb ev mb E M last) (htb : tb < w.heap.size ∧ mb < w.heap.size ∧ (∀ g, ev.ownBlock = some g → g < w.heap.size)) :
    CallsIn Fence.wide n Tryz.prog 127 #[.pointer (some ⟨tb, 0, none⟩)] w fun e w' => ∃ g cap, e = .returned (.slice (some ⟨g, 0, none⟩) L.length cap) ∧ RowAt w' w.heap.size 45 20 g L.length cap (pAll L) ∧ Below w.heap.size w w' := by
  have h153 : Fence.wide.fn 153 := trivial
  have h1 : 1 ≤ n := by omega
  have hLl : (live E).length = L.length := by rw [← hLE]; simp [liveP]
  have hlen : L.length ≤ 1000000 := by have h1 := hT.ok.len_le; have h2 := live_len E; omega
  obtain ⟨i0, hi0, hz0, hz1, hz2⟩ := info_parts Tryz.info45
  have hcT := hT.tab.cellT
  have hl := fun ty => run_len_k hT.map ty
  rw [hT.ok.len, hLl] at hl
  refine callsIn_of_wp_marks Tryz.func127 rfl trivial ?_ rfl
  simp only [Tryz.ntmps127, List.size_toArray, List.length_cons, List.length_nil, Nat.reduceAdd, Nat.reduceSub, Array.replicate_succ, Array.replicate_zero, List.push_toArray, List.append_toArray, List.nil_append, List.cons_append]
  gi_wp2_with (first | ((with_reducible show wpListIn _ _ _ _ _ (⟨_, .makeSlice 22 _ _, _, _, _, _⟩ :: _) _ _); refine wpListIn_make_own _ rfl (.const (.int .i64 0)) (.tmp 10) 22 rfl w.heap.size 45 i0 _ 20 Tryz.underlying22 hi0 hz0 hz1 .i64 .i64 (L.length : Int) L.length rfl rfl rfl (by rw [hz2]; omega) (by unfold maxLen; omega) (Nat.le_refl _) ?_; intro wa hown hgr; have hba := below_grown0' hgr) | ((with_reducible show wpListIn _ _ _ _ _ (⟨_, .alloc 22, _, _, _, _⟩ :: _) _ _); refine in_alloc1 rfl 22 rfl (.slice none 0 0) zero22 rfl ?_; intro wb hA hLb) | ((with_reducible show wpListIn _ _ _ _ _ (⟨_, .store 22 _ _, _, _, _, _⟩ :: _) _ _); refine in_store1 rfl 22 _ _ rfl _ (.slice none 0 0) _ 22 rfl rfl hA Tryz.size22 rfl rfl ?_; intro wc hA2 hO2) | (gi_at_call 153; refine (callsIn_wide.2 (each_any tb _)).mono ?_; rintro e wd ⟨rfl, hBn, hbd⟩))
  have hs1 := hba.size
  have hs2 := hLb.size
  have hs3 := hO2.size
  have hs4 := hbd.size
  have hwb : Below w.heap.size w wc := (hba.trans (hLb.mono hs1)).trans (hO2.below _ (by omega) (by simp; omega))
  have hwd : Below w.heap.size w wd := hwb.trans (hbd.mono (by omega))
  have hst : PropSt w wd wa.heap.size [] w.heap.size L.length := by
    refine ⟨hA2.next hbd, ?_, hwd, hs1⟩
    have r := ((RowAt.of hown).next hLb).keep (W' := wc) (fun C hC => hC.only hO2 (by have := (RowAt.of hown).lt; simp; omega))
    exact r.next hbd
  have hTd := hT.below hwd
  clear hown hgr hA hA2 hO2 hLb hba hcT hl hwb
  obtain ⟨FR, hFR⟩ : ∃ FR : Value → Value → Value → Value → Array Value, FR = fun a b c d => #[.pointer (some ⟨tb, 0, none⟩), undef, .slice none 0 0, .pointer (some ⟨wa.heap.size, 0, none⟩), a, b, .pointer (some ⟨tb, 0, none⟩), .pointer (some ⟨tb, 0, none⟩), .pointer (some ⟨tb, 1, none⟩), .map (some mb), .int .i64 (L.length : Nat), .slice (some ⟨w.heap.size, 0, none⟩) 0 L.length, .pointer (some ⟨tb, 0, none⟩), .func (.func 177) #[] #[.pointer (some ⟨wc.heap.size, 0, none⟩)], c, d, undef, undef, undef, undef, undef, undef, undef] := ⟨_, rfl⟩
  refine wpIn_rangeFunc_ownH (α := Ky × Ds) rfl h1 (gf := 177) (lb := #[.pointer (some ⟨wc.heap.size, 0, none⟩)]) rfl trivial (enters_of Tryz.func177 (by kernel_rfl) rfl)
    (each_stops (n - 1) (by omega) wc.heap.size w.heap.size base tb mb ev E M last hla L hLE wd hwd.size hTd htb hBn) (fun h k => h.trans k) (KpT.book hwd.size) (Below.refl _ _) (fun _ => rfl)
    (fun pre W => ∃ g cap, PropSt w W wa.heap.size pre g cap) (fun _ _ _ => False) ?hI (fun _ _ _ _ _ hs _ _ => hs) ⟨_, _, hst⟩
    (fun x a' W => ∃ b4 b5, a' = { tmps := FR (.pointer (some ⟨b4, 0, none⟩)) (.pointer (some ⟨b5, 0, none⟩)) (.agg (kArr x.1)) (.agg (dArr x.2)), defers := [] } ∧ Blk W b4 (kArr x.1) 40 ∧ Blk W b5 (dArr x.2) 43) ?hAx ?assign ?body ?done ?stop
  case hI =>
    rintro pre A B row ⟨g, cap, h⟩ hg hr
    exact ⟨g, cap, h.v.own hg (fun r e => (hr r e).2), h.row.keep (fun C hC => hC.own hg (fun r e => (hr r e).2)), h.b.trans ⟨hg.os, hg.tape, hg.output, hg.size, fun k hk => hg.block k (by have := h.b.size; omega) (fun e => by have := (hr k e.symm).1; omega)⟩, h.b3l⟩
  case hAx =>
    rintro x a' _ A B row ⟨b4, b5, h1, h2, h3⟩ hg hr
    exact ⟨b4, b5, h1, h2.own hg (fun r e => (hr r e).2), h3.own hg (fun r e => (hr r e).2)⟩
  case assign =>
    rintro l pre x W K ⟨g, cap, hI⟩ hK
    have e : ((#[14, 15] : Array Tmp).zip #[Value.agg (kArr x.1), .agg (dArr x.2)]).foldl (fun t x => match x with | (p, v) => t.setIfInBounds p v) #[.pointer (some ⟨tb, 0, none⟩), undef, .slice none 0 0, .pointer (some ⟨wa.heap.size, 0, none⟩), undef, undef, .pointer (some ⟨tb, 0, none⟩), .pointer (some ⟨tb, 0, none⟩), .pointer (some ⟨tb, 1, none⟩), .map (some mb), .int .i64 (L.length : Nat), .slice (some ⟨w.heap.size, 0, none⟩) 0 L.length, .pointer (some ⟨tb, 0, none⟩), .func (.func 177) #[] #[.pointer (some ⟨wc.heap.size, 0, none⟩)], undef, undef, undef, undef, undef, undef, undef, undef, undef] = #[.pointer (some ⟨tb, 0, none⟩), undef, .slice none 0 0, .pointer (some ⟨wa.heap.size, 0, none⟩), undef, undef, .pointer (some ⟨tb, 0, none⟩), .pointer (some ⟨tb, 0, none⟩), .pointer (some ⟨tb, 1, none⟩), .map (some mb), .int .i64 (L.length : Nat), .slice (some ⟨w.heap.size, 0, none⟩) 0 L.length, .pointer (some ⟨tb, 0, none⟩), .func (.func 177) #[] #[.pointer (some ⟨wc.heap.size, 0, none⟩)], .agg (kArr x.1), .agg (dArr x.2), undef, undef, undef, undef, undef, undef, undef] := by simp
    dsimp only
    rw [e]
    clear e
    gi_wp2_with (first | ((with_reducible show wpListIn _ _ _ _ _ (⟨_, .alloc 40, _, _, _, _⟩ :: _) _ _); refine in_alloc rfl 40 rfl (kArr ⟨⟨#[]⟩, 0⟩) zero40 ?_; intro y1 hK1 hL1) | ((with_reducible show wpListIn _ _ _ _ _ (⟨_, .store 40 _ _, _, _, _, _⟩ :: _) _ _); refine in_store rfl 40 _ _ rfl _ (kArr x.1) _ 40 rfl rfl hK1 Tryz.size40 rfl (kArr_one _) ?_; intro y2 hK2 hO2; have hL2 := below_only hL1 hO2 (by simp)) | ((with_reducible show wpListIn _ _ _ _ _ (⟨_, .alloc 43, _, _, _, _⟩ :: _) _ _); refine in_alloc rfl 43 rfl (dArr Dc.d0) zero43 ?_; intro y3 hD3 hL3) | ((with_reducible show wpListIn _ _ _ _ _ (⟨_, .store 43 _ _, _, _, _, _⟩ :: _) _ _); refine in_store rfl 43 _ _ rfl _ (dArr x.2) _ 43 rfl rfl hD3 Tryz.size43 rfl (dCells_one _) ?_; intro y4 hD4 hO4; have hL4 := below_only hL3 hO4 (by simp)))
    have hL24 : Below W.heap.size W y4 := hL2.trans (hL4.mono hL2.size)
    refine hK _ _ (keepsFrom_below hL24 _) ⟨hL24.mono hI.b.size, keep_below hL24⟩ ⟨g, cap, hI.v.next hL24, hI.row.next hL24, hI.b.trans (hL24.mono hI.b.size), hI.b3l⟩ ⟨W.heap.size, y2.heap.size, by rw [hFR]; rfl, hK2.next hL4, hD4⟩
  case body =>
    rintro l pre x a' W hlw hrec ⟨g, cap, hI⟩ ⟨b4, b5, rfl, h4, h5⟩ hlt
    rw [hFR]
    have hrow := hI.row
    have hwl := hI.b.size
    have hps : pre.length + 1 ≤ 1000000 := by omega
    gi_wp2_with (first | ((with_reducible show wpListIn _ _ _ _ _ (⟨_, .load 22 _, _, _, _, _⟩ :: _) _ _); refine in_load1 rfl 22 _ rfl wa.heap.size 0 rfl (.slice (some ⟨g, 0, none⟩) pre.length cap) (Tryz.isAgg22 _) (hI.v.cell 0) ?_) | ((with_reducible show wpListIn _ _ _ _ _ (⟨_, .load 40 _, _, _, _, _⟩ :: _) _ _); refine in_load_mid rfl 40 _ rfl b4 0 rfl [.string x.1.str, .int .i64 x.1.sym] _ (range_e h4) Tryz.underlying40 rfl Tryz.size40 ?_) | ((with_reducible show wpListIn _ _ _ _ _ (⟨_, .load 43 _, _, _, _, _⟩ :: _) _ _); refine in_load_mid rfl 43 _ rfl b5 0 rfl [.int .i64 x.2.val.kind, .bool x.2.val.bool, .float .f64 x.2.val.num, .string x.2.val.str, .int .i64 x.2.val.id, .int .i64 x.2.get.kind, .bool x.2.get.bool, .float .f64 x.2.get.num, .string x.2.get.str, .int .i64 x.2.get.id, .int .i64 x.2.set.kind, .bool x.2.set.bool, .float .f64 x.2.set.num, .string x.2.set.str, .int .i64 x.2.set.id, .int .i64 x.2.w, .int .i64 x.2.e, .int .i64 x.2.c] _ (range_e h5) Tryz.underlying43 rfl Tryz.size43 ?_) | ((with_reducible show wpListIn _ _ _ _ _ (⟨_, .call _, _, _, _, _⟩ :: _) _ _); refine wpListIn_append_own _ rfl (.tmp 16) (.tmp 20) 22 rfl w.heap.size 45 i0 _ 20 192 Tryz.underlying22 hi0 hz0 hz1 hz2 rfl (by decide) (.slice (some ⟨g, 0, none⟩) pre.length cap) pre.length (pAll pre) rfl (hrow.next (one W _)).owns ⟨W.heap.size, 0, none⟩ 1 1 (pCells x) rfl rfl (World.news_of_block (cs := (pCells x).toArray) (t := 45) (fr := (0, 0)) (heap_alloc_new W _)) (by simp [Value.oneCell', pCells, kArr, dArr]) (by unfold maxLen; omega) (by omega) (by simp; omega) ?_; intro v' y1 hown1 hgr1 _; obtain ⟨g', cap', rfl, _, _⟩ := World.ownsRow.form hown1 (by omega); have hv1 := hI.v.grown45 hgr1 hrow) | ((with_reducible show wpListIn _ _ _ _ _ (⟨_, .store 22 _ _, _, _, _, _⟩ :: _) _ _); refine in_store1 rfl 22 _ _ rfl wa.heap.size (.slice (some ⟨g, 0, none⟩) pre.length cap) (.slice (some ⟨g', 0, none⟩) (pre.length + 1) cap') 22 rfl rfl hv1 Tryz.size22 rfl rfl ?_; intro y2 hv2 hO2))
    obtain ⟨cur, hg0, _⟩ := hrow.lies
    have kept : ∀ (k : Nat) (o : Obj), W.heap[k]? = some o → k ≠ g → k ≠ wa.heap.size → y2.heap[k]? = some o := fun k o hk n1 n2 => by
      have hkl : k < W.heap.size := (Array.getElem?_eq_some_iff.1 hk).1
      have k1 := ((one W (.cells (pCells x).toArray 45)).block k hkl).trans hk
      have k2 := (hgr1.block k (Array.getElem?_eq_some_iff.1 k1).1 (fun e => n1 (by simpa [Value.ownBlock] using e))).trans k1
      exact (hO2.block k (Array.getElem?_eq_some_iff.1 k2).1 (by simpa using n2)).trans k2
    have hsz : W.heap.size ≤ y2.heap.size := by have h1 := hgr1.size; have h2 := hO2.size; simp at h1; omega
    have hbase := hrow.base
    have hbelow : Below w.heap.size W y2 := ⟨hO2.os.trans hgr1.os, hO2.tape.trans hgr1.tape, hO2.output.trans hgr1.output, hsz, fun k hk => by
      have hkW : k < W.heap.size := by omega
      rw [kept k _ (Array.getElem?_eq_getElem hkW) (by omega) (by omega)]
      exact (Array.getElem?_eq_getElem hkW).symm⟩
    refine ⟨⟨hsz, fun k o _ hk ho => kept k o hk (fun e => ?_) (fun e => ?_)⟩, ⟨hbelow, fun k C t ht hk => kept k _ hk (fun e => ?_) (fun e => ?_)⟩, g', cap', ?_, ?_, hI.b.trans hbelow, hI.b3l⟩
    · subst e; unfold Blk at hg0; rw [hg0] at hk; cases hk; cases ho
    · subst e; have hv := hI.v; unfold Blk at hv; rw [hv] at hk; cases hk; cases ho
    · subst e; exact hk.ne hg0 (by rcases ht with rfl | rfl <;> decide) rfl
    · subst e; exact hk.ne hI.v (by rcases ht with rfl | rfl <;> decide) rfl
    · rw [List.length_append]; exact hv2
    · rw [List.length_append, pAll_snoc]
      exact (RowAt.of hown1).keep fun C hC => hC.only hO2 (by simpa using hC.ne hv1 (by decide))
  case done =>
    rintro D xs W hD rfl ⟨g, cap, hI⟩ hK
    gi_wp2_with (((with_reducible show wpListIn _ _ _ _ _ (⟨_, .load 22 _, _, _, _, _⟩ :: _) _ _); refine in_load1 rfl 22 _ rfl wa.heap.size 0 rfl (.slice (some ⟨g, 0, none⟩) xs.length cap) (Tryz.isAgg22 _) (hI.v.cell 0) ?_))
    refine ⟨by simp, .inl ⟨_, _, rfl, run_takeDeferred hK, ?_⟩⟩
    have hDk : ∀ (k : Nat) (C : Array Value) (t : TypeId), Blk W k C t → Blk (W.putObj D (.deferred none)) k C t := fun k C t hk => by
      refine (World.putObj_heap_other (fun e => ?_)).trans hk
      subst e; unfold Blk at hk; rw [hk] at hK; cases hK
    exact ⟨_, results_tmp rfl _ _ _, g, cap, rfl, hI.row.keep (fun C hC => hDk _ _ _ hC), hI.b.trans ⟨rfl, rfl, rfl, by simp, fun k hk => World.putObj_heap_other (by omega)⟩⟩
  case stop =>
    rintro D c pre W _ _ h _
    exact h.elim
theorem props_any (base tb mb : Nat) (ev : Value) (L : List (Ky × Ds)) (q : Int) (w : World) (hT : TabSt base w tb ev mb L q) (hq : q ≤ 1000000) : Calls Tryz.prog 127 #[.pointer (some ⟨tb, 0, none⟩)] w fun e w' => ∃ g cap, e = .returned (.slice (some ⟨g, 0, none⟩) L.length cap) ∧ RowAt w' w.heap.size 45 20 g L.length cap (pAll L) ∧ Below w.heap.size w w' :=
  by
  obtain ⟨E, M, last, hT, hL, hlq⟩ := hT
  exact callsIn_wide.1 (props_in 4 base tb mb ev E M last (by omega) L hL w (Nat.le_refl _) hT ⟨hT.tab.lt, hT.map.lt, ownsRow_lt hT.row⟩)

end Go.Proofs.YtoalboilghgalaaGreatDoor
