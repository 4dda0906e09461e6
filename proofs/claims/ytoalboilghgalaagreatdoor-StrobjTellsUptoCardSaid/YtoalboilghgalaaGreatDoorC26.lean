/- Lemmas for this claim, in parts: InLaws, Each. -/
import Derived.Test.YtoalboilghgalaaGreatDoorC25
import Derived.OwnWalkIn
import Derived.RangeFuncKeeps
import Derived.RangeFuncLeaves
import Derived.LoopIn
import Derived.LoopNIn
import Derived.TacticsInMore
set_option maxRecDepth 100000
set_option maxHeartbeats 4000000
set_option linter.unusedVariables false
set_option linter.unusedSimpArgs false
/- The laws at the operation, inside a fence. -/
namespace Go.Proofs.YtoalboilghgalaaGreatDoor
open Go.RowKit
open Go.Proofs.Dc (V Ds Ky)

section
variable {F : Fence} {n : Nat} {P : Program} {ops : Array Oper} {rest : List Oper} {o : Oper} {a : Act} {W : World} {Q : Exit → Act → World → Prop}
theorem in_value (hg : o.guard = none) (hd : ∀ c, o.op ≠ .defer c) (ha : o.about P W a.eval = none) {v : Value} {W' : World} (hr : (execOp a.eval o).run P W = .ok (.value v) W') (h : wpListIn F n P ops Q rest (a.put o.dst v) W') : wpListIn F n P ops Q (o :: rest) a W := by
  refine wpListIn_plain hg fun K hK => ?_
  unfold Oper.wpIn
  refine ⟨(by rw [ha]; intro f hf; cases hf), ?_⟩
  rw [Oper.semAt_plain F _ _ hd, hr]
  exact hK _ _ h
theorem in_skip (hg : o.guard = none) (hd : ∀ c, o.op ≠ .defer c) (ha : o.about P W a.eval = none) {W' : World} (hr : (execOp a.eval o).run P W = .ok .skip W') (h : wpListIn F n P ops Q rest (a.put o.dst undef) W') : wpListIn F n P ops Q (o :: rest) a W := by
  refine wpListIn_plain hg fun K hK => ?_
  unfold Oper.wpIn
  refine ⟨(by rw [ha]; intro f hf; cases hf), ?_⟩
  rw [Oper.semAt_plain F _ _ hd, hr]
  exact hK _ _ h
theorem in_load_mid (hg : o.guard = none) (ty : TypeId) (x : Operand) (ho : o.op = .load ty x) (b j : Nat) (hx : a.eval x = .pointer (some ⟨b, j, none⟩)) (cs : List Value) (d : TypeDesc) (hc : W.rangeAt b j cs)
    (hu : P.underlying ty = some d) (hd : d.isRow = true) (hi : (P.info? ty).map (·.size) = some cs.length) (h : wpListIn F n P ops Q rest (a.put o.dst (.agg cs.toArray)) W) : wpListIn F n P ops Q (o :: rest) a W :=
  in_value hg (by rw [ho]; intro c hc'; cases hc') (by simp [Oper.about, ho]) (by unfold execOp; simp only [ho, hx, Instr.loadAt, Instr.sureAddr, Sem.run_bind, Sem.run_pure, Result.andThen_ok, run_loadVar_mid W b j ty cs d hc hu hd hi]) h
theorem in_load1 (hg : o.guard = none) (ty : TypeId) (x : Operand) (ho : o.op = .load ty x) (b j : Nat) (hx : a.eval x = .pointer (some ⟨b, j, none⟩)) (v : Value) (hA : (isAgg ty).run P W = .ok false W) (hc : W.cell? ⟨b, j, none⟩ = some v)
    (h : wpListIn F n P ops Q rest (a.put o.dst v) W) : wpListIn F n P ops Q (o :: rest) a W :=
  in_value hg (by rw [ho]; intro c hc'; cases hc') (by simp [Oper.about, ho]) (by unfold execOp; simp only [ho, hx, Instr.loadAt, Instr.sureAddr, Sem.run_bind, Sem.run_pure, Result.andThen_ok, run_load1 ty b j v hA hc]) h
theorem in_alloc (hg : o.guard = none) (ty : TypeId) (ho : o.op = .alloc ty) (Z : Array Value) (hz : ∀ w, (zeroValue ty).run P w = .ok (.agg Z) w)
    (h : ∀ W', Blk W' W.heap.size Z ty → Below W.heap.size W W' → wpListIn F n P ops Q rest (a.put o.dst (.pointer (some ⟨W.heap.size, 0, none⟩))) W') : wpListIn F n P ops Q (o :: rest) a W :=
  in_value (W' := W.alloc (.cells Z ty)) hg (by rw [ho]; intro c hc'; cases hc') (by simp [Oper.about, ho]) (by unfold execOp; simp [ho, Instr.alloc, hz, newVar, Value.cells, go_sem]) (h _ (Blk.new _ _ _) (one _ _))
theorem in_store (hg : o.guard = none) (ty : TypeId) (x y : Operand) (ho : o.op = .store ty x y) (b : Nat) (C old : Array Value) (t : TypeId) (hx : a.eval x = .pointer (some ⟨b, 0, none⟩)) (hy : a.eval y = .agg C) (hb : Blk W b old t) (hi : (P.info? ty).map (·.size) = some C.size) (hold : old.size = C.size)
    (h1 : C.all (·.oneCell') = true) (h : ∀ W', Blk W' b C t → Only [b] W W' → wpListIn F n P ops Q rest (a.put o.dst undef) W') : wpListIn F n P ops Q (o :: rest) a W := by
  have hr : (execOp a.eval o).run P W = .ok .skip (W.setRow b C) := by
    unfold execOp
    simp only [ho, hx, hy, Instr.storeAt, Instr.sureAddr, Sem.run_bind, Sem.run_pure, Result.andThen_ok, run_storeVar_row W b t ty old C hb hi hold h1]
  exact in_skip hg (by rw [ho]; intro c hc'; cases hc') (by simp [Oper.about, ho]) hr (h _ (only_setRow hb).1 (only_setRow hb).2)
end

/-- the entry behind a number, or none -/
def eB (F : List GE) (n : Nat) : Array Value := headA (F.drop n)
theorem eB_size (F : List GE) (n : Nat) : (eB F n).size = 22 := headA_size _
theorem eB_one (F : List GE) (n : Nat) : (eB F n).all (·.oneCell') = true := headA_one _
theorem eB_at {F : List GE} {n : Nat} (h : n < F.length) : eB F n = eArr F[n] := by
  unfold eB; rw [List.drop_eq_getElem_cons h]; rfl
theorem headB_drop (F : List GE) (n : Nat) : headB (F.drop n) = decide (n < F.length) := by
  by_cases h : n < F.length
  · rw [List.drop_eq_getElem_cons h, decide_eq_true h]; rfl
  · rw [List.drop_eq_nil_of_le (by omega), decide_eq_false h]; rfl
theorem behind_any (base : Nat) (tb mb : Nat) (ev : Value) (E : List GE) (M : List (Ky × Nat)) (last : Nat) (w : World) (hB : TabG base w tb ev mb E M last) (hl : last ≤ 1000000) (n : Nat) (hn : n ≤ (live E).length) :
    Calls Tryz.prog 178 #[.pointer (some ⟨tb, 0, none⟩), .int .u64 (numAt (live E) n : Nat)] w fun e w' => e = .returned (.tuple #[.agg (eB (live E) n), .bool (decide (n < (live E).length))]) ∧ Below w.heap.size w w' := by
  have h := behind_scan base tb mb ev E M last w hB (numAt (live E) n) hl (numAt_le hB.ok n)
  rw [hB.ok.behind hn, headB_drop] at h
  exact h
/-- entries that lie alone are kept -/
def Keep245 (A B : World) : Prop := ∀ (k : Nat) (C : Array Value) (t : TypeId), t = 245 ∨ t = 142 → Blk A k C t → Blk B k C t
/-- what a round over a table keeps -/
def KpT (n₀ : Nat) (A B : World) : Prop := Below n₀ A B ∧ Keep245 A B
theorem KpT.trans {n₀ : Nat} {A B C : World} (h : KpT n₀ A B) (k : KpT n₀ B C) : KpT n₀ A C := ⟨h.1.trans k.1, fun i C t ht hi => k.2 i C t ht (h.2 i C t ht hi)⟩
theorem KpT.book {n₀ : Nat} {w : World} (hn : n₀ ≤ w.heap.size) (W : World) (l : Nat) (o o' : Obj) (hl : w.heap.size ≤ l) (h : W.heap[l]? = some o) (h1 : o.isCells = false) (h2 : o.isWalk = false) : KpT n₀ W (W.putObj l o') := by
  refine ⟨belowK_b hn W l o o' hl h h1 h2, fun k C t _ hk => ?_⟩
  have : l ≠ k := fun e => by
    subst e; unfold Blk at hk; rw [hk] at h; cases h; cases h1
  exact (World.putObj_heap_other (Ne.symm this)).trans hk
end Go.Proofs.YtoalboilghgalaaGreatDoor

/- table.Each: the iterator, with what it keeps and what it asks. -/
namespace Go.Proofs.YtoalboilghgalaaGreatDoor
open Go.RowKit
open Go.Proofs.Dc (V Ds Ky)
attribute [local go_sem] run_store_float

attribute [local go_sem] Oper.semAt_some
theorem below_grown {W W' : World} (h : Below W.heap.size W W') : W.grownBy W' none := ⟨h.os, h.tape, h.output, h.size, fun k hk _ => h.block k hk⟩
theorem size245e (L : List GE) (n : Nat) : (Tryz.prog.info? 245).map (·.size) = some (eB L n).size := by rw [eB_size]; exact Tryz.size245
theorem e0_eB (L : List GE) (n : Nat) : e0.size = (eB L n).size := by rw [eB_size]; rfl
theorem eB_eB (L : List GE) (n m : Nat) : (eB L n).size = (eB L m).size := by rw [eB_size, eB_size]
theorem TabG.low {base n₀ : Nat} {W W' : World} {tb mb : Nat} {ev : Value} {E : List GE} {M : List (Ky × Nat)} {last : Nat} (h : TabG base W tb ev mb E M last) (hb : Below n₀ W W') (hl : tb < n₀ ∧ mb < n₀ ∧ (∀ g, ev.ownBlock = some g → g < n₀)) : TabG base W' tb ev mb E M last := by
  refine ⟨(hb.block tb hl.1).trans h.tab, ?_, h.map.keep (hb.block mb hl.2.1), h.ok⟩
  obtain ⟨h1, h2⟩ := h.row
  refine ⟨h1, ?_⟩
  rcases h2 with h2 | ⟨g, cap, cur, hv, hg, hh, r⟩
  · exact .inl h2
  · exact .inr ⟨g, cap, cur, hv, hg, (hb.block g (hl.2.2 g (by rw [hv]; rfl))).trans hh, r⟩
theorem range_eKey {W : World} {b : Nat} {x : GE} (h : Blk W b (eArr x) 245) : W.rangeAt b 0 [.string x.p.1.str, .int .i64 x.p.1.sym] := fun j v hv => by
  rw [h.cell, Nat.zero_add]
  have hj : j < 2 := (List.getElem?_eq_some_iff.1 hv).1
  obtain rfl | rfl : j = 0 ∨ j = 1 := by omega
  all_goals exact hv
theorem range_eDs {W : World} {b : Nat} {x : GE} (h : Blk W b (eArr x) 245) : W.rangeAt b 2 (dArr x.p.2).toList := fun j v hv => by
  rw [h.cell]
  have hj : j < 18 := (List.getElem?_eq_some_iff.1 hv).1
  have e : (eArr x).toList = (kArr x.p.1).toList ++ ((dArr x.p.2).toList ++ [.int .u64 (x.n : Nat), .bool x.gone]) := rfl
  have : (eArr x)[2 + j]? = (eArr x).toList[2 + j]? := by simp
  rw [this, e, List.getElem?_append_right (by simp [kArr]), List.getElem?_append_left (by simp [kArr, dArr]; omega)]
  simpa [kArr] using hv
theorem range_e {W : World} {b : Nat} {C : Array Value} {t : TypeId} (h : Blk W b C t) : W.rangeAt b 0 C.toList := fun j v hv => by
  rw [h.cell, Nat.zero_add]; simpa using hv

theorem numAt_succ {F : List GE} {m : Nat} (h : m < F.length) : numAt F (m + 1) = F[m].n := by simp [numAt, h]
/-- how many are behind a number -/
def meas (F : List GE) (v : Value) : Nat := (F.filter fun e => decide ((intOf v).toNat < e.n)).length
theorem meas_at {F : List GE} (h : F.Pairwise fun a b => a.n < b.n) (hp : ∀ e ∈ F, 0 < e.n) {m : Nat} (hm : m ≤ F.length) {k : IntKind} : meas F (.int k (numAt F m : Nat)) = F.length - m := by
  have : (intOf (.int k (numAt F m : Nat))).toNat = numAt F m := by simp [intOf]
  unfold meas
  rw [this, filter_num h hp m hm, List.length_drop]
/-- what holds at the head of the iterator's loop -/
structure EachSt (n₀ base tb mb Bn : Nat) (ev : Value) (E : List GE) (M : List (Ky × Nat)) (last : Nat) (F : List GE) (w : World) (J : List (Ky × Ds) → World → Prop) (wr : World) (m eb : Nat) : Prop where
  le : m ≤ F.length
  t : TabG base wr tb ev mb E M last
  bn : Blk wr Bn #[.pointer (some ⟨tb, 0, none⟩)] 142
  e : Blk wr eb (eB F m) 245
  b : Below n₀ w wr
  j : J ((F.map (·.p)).take m) wr

theorem each1_in (n l Bn n₀ base tb mb : Nat) (ev : Value) (E : List GE) (M : List (Ky × Nat)) (last : Nat) (F : List GE) (hF : F = live E) (hl : last ≤ 1000000) (J Jx : List (Ky × Ds) → World → Prop) (w : World) (hn₀ : n₀ ≤ w.heap.size) (hn1 : 1 ≤ n)
    (hT : TabG base w tb ev mb E M last) (hlow : tb < n₀ ∧ mb < n₀ ∧ (∀ g, ev.ownBlock = some g → g < n₀)) (hBn : Blk w Bn #[.pointer (some ⟨tb, 0, none⟩)] 142) (hJ : AbidesFrom w.heap.size J)
    (hY : ∀ pre x W, J pre W → pre.length < F.length → YieldAt Fence.wide (n - 1) Tryz.prog l #[.agg (kArr x.1), .agg (dArr x.2)] W fun e W' => (e = .returned (.bool true) ∧ J (pre ++ [x]) W' ∧ KpT n₀ W W') ∨ (e = .returned (.bool false) ∧ Jx (pre ++ [x]) W'))
    (h0 : J [] w) : CallsIn Fence.wide n Tryz.prog 177 #[.func (.yield l) #[] #[], .pointer (some ⟨Bn, 0, none⟩)] w fun e W' => (∃ v, e = .returned v) ∧ ((∃ ys, ys = F.map (·.p) ∧ J ys W') ∨ (∃ pre, pre <+: F.map (·.p) ∧ Jx pre W')) := by
  have h178 : Fence.wide.fn 178 := trivial
  have hbe : ∀ m, m ≤ F.length → ∀ W, TabG base W tb ev mb E M last → Calls Tryz.prog 178 #[.pointer (some ⟨tb, 0, none⟩), .int .u64 (numAt F m : Nat)] W fun e w' => e = .returned (.tuple #[.agg (eB F m), .bool (decide (m < F.length))]) ∧ Below W.heap.size W w' := by
    subst hF
    exact fun m hm W h => behind_any base tb mb ev E M last W h hl m hm
  have hb0 : ∀ W, TabG base W tb ev mb E M last → Calls Tryz.prog 178 #[.pointer (some ⟨tb, 0, none⟩), .int .u64 0] W fun e w' => e = .returned (.tuple #[.agg (eB F 0), .bool (decide (0 < F.length))]) ∧ Below W.heap.size W w' := hbe 0 (Nat.zero_le _)
  have hsort : F.Pairwise fun a b => a.n < b.n := by rw [hF]; exact hT.ok.nums.sublist (live_sub E)
  have hpos : ∀ e ∈ F, 0 < e.n := by rw [hF]; exact fun e he => hT.ok.pos e ((live_sub E).subset he)
  have HBE := Lib.hid hbe
  have HSP := Lib.hid (And.intro hsort hpos)
  clear hbe hsort hpos hF
  have hQ := Below.refl w.heap.size w
  refine callsIn_of_wp Tryz.func177 rfl trivial ?_ rfl
  simp only [Tryz.ntmps177, List.size_toArray, List.length_cons, List.length_nil, Nat.reduceAdd, Nat.reduceSub, Array.replicate_succ, Array.replicate_zero, List.push_toArray, List.append_toArray, List.nil_append, List.cons_append]
  gi_wp2_with (first | ((with_reducible show wpListIn _ _ _ _ _ (⟨_, .load 142 _, _, _, _, _⟩ :: _) _ _); refine in_load1 rfl 142 _ rfl Bn 0 rfl (.pointer (some ⟨tb, 0, none⟩)) (Tryz.isAgg142 _) (hBn.cell 0) ?_) | (gi_at_call 178; refine (callsIn_wide.2 (hb0 _ hT)).mono ?_; rintro e wb ⟨rfl, hbb⟩; replace hT := hT.below hbb; replace hQ := hQ.trans (hbb.mono hQ.size); replace hBn := hBn.next hbb) | ((with_reducible show wpListIn _ _ _ _ _ (⟨_, .alloc 245, _, _, _, _⟩ :: _) _ _); refine in_alloc rfl 245 rfl e0 zero245 ?_; intro wa hA hLa; have hqs := hQ.size; replace hT := hT.below hLa; replace hQ := hQ.trans (hLa.mono hqs); replace hBn := hBn.next hLa) | ((with_reducible show wpListIn _ _ _ _ _ (⟨_, .store 245 _ _, _, _, _, _⟩ :: _) _ _); refine in_store rfl 245 _ _ rfl _ (eB F 0) e0 245 rfl rfl hA (size245e F _) (e0_eB F _) (eB_one _ _) ?_; intro ws hS hOs))
  have hst : EachSt n₀ base tb mb Bn ev E M last F w J ws 0 wb.heap.size := by
    have hq2 : Below w.heap.size w ws := hQ.trans (hOs.below _ hQ.size (by have := hbb.size; simpa using this))
    have hqa : Below wb.heap.size wb ws := below_only hLa hOs (by simp)
    exact ⟨Nat.zero_le _, (hT.only hOs (by simpa using hT.tab.ne hA (by decide)) (by simpa using hT.map.ne hA) (by intro g hg; have h1 := hlow.2.2 g hg; have h2 := hbb.size; simp; omega)), hBn.only hOs (by simpa using hBn.ne hA (by decide)), hS, hq2.mono hn₀, hJ _ _ _ none h0 (below_grown hq2) (by simp)⟩
  clear hT hBn hQ hA hLa hOs hbb hS hqs h0 hb0
  gi_loopw [3, 4, 5] (fun at_ ep ok wr => ∃ m eb, at_ = .int .u64 (numAt F m : Nat) ∧ ep = .pointer (some ⟨eb, 0, none⟩) ∧ ok = .bool (decide (m < F.length)) ∧ EachSt n₀ base tb mb Bn ev E M last F w J wr m eb) (fun at_ _ _ _ => meas F at_)
  case atStart => exact ⟨0, wb.heap.size, rfl, rfl, rfl, hst⟩
  case round =>
    clear hst
    obtain ⟨m, eb, rfl, rfl, rfl, hle, hT, hBn, hE, hQ, hJm⟩ := hrel
    by_cases hm : m < F.length
    · have hd : decide (m < F.length) = true := decide_eq_true hm
      have hEe : Blk wr eb (eArr F[m]) 245 := by rw [eB_at hm] at hE; exact hE
      obtain ⟨fn, tmps, assign, body, hy, hR⟩ := hY ((F.map (·.p)).take m) F[m].p wr hJm (by rw [List.length_take, List.length_map]; omega)
      have hy' : (Instr.yield l #[.agg #[.string F[m].p.1.str, .int .i64 F[m].p.1.sym], .agg #[.int .i64 F[m].p.2.val.kind, .bool F[m].p.2.val.bool, .float .f64 F[m].p.2.val.num, .string F[m].p.2.val.str, .int .i64 F[m].p.2.val.id, .int .i64 F[m].p.2.get.kind, .bool F[m].p.2.get.bool, .float .f64 F[m].p.2.get.num, .string F[m].p.2.get.str, .int .i64 F[m].p.2.get.id, .int .i64 F[m].p.2.set.kind, .bool F[m].p.2.set.bool, .float .f64 F[m].p.2.set.num, .string F[m].p.2.set.str, .int .i64 F[m].p.2.set.id, .int .i64 F[m].p.2.w, .int .i64 F[m].p.2.e, .int .i64 F[m].p.2.c]]).run Tryz.prog wr = .ok (.round l fn tmps assign body) wr := hy
      clear hy
      have htk : (F.map (·.p)).take m ++ [F[m].p] = (F.map (·.p)).take (m + 1) := by rw [List.take_succ_eq_append_getElem (by simpa using hm), List.getElem_map]
      have hbm : Hid (∀ W, TabG base W tb ev mb E M last → Calls Tryz.prog 178 #[.pointer (some ⟨tb, 0, none⟩), .int .u64 (F[m].n : Nat)] W fun e w' => e = .returned (.tuple #[.agg (eB F (m + 1)), .bool (decide (m + 1 < F.length))]) ∧ Below W.heap.size W w') := Lib.hid (by have := HBE.out (m + 1) hm; rw [numAt_succ hm] at this; exact this)
      rw [htk] at hR
      have HTK := Lib.hid htk
      clear htk hY
      gi_wp2_with (first | ((with_reducible show wpListIn _ _ _ _ _ (⟨_, .load 76 _, _, _, _, _⟩ :: _) _ _); refine in_load1 rfl 76 _ rfl eb 20 rfl (.int .u64 (F[m].n : Nat)) (Tryz.isAgg76 _) (hEe.cell 20) ?_) | ((with_reducible show wpListIn _ _ _ _ _ (⟨_, .load 40 _, _, _, _, _⟩ :: _) _ _); refine in_load_mid rfl 40 _ rfl eb 0 rfl [.string F[m].p.1.str, .int .i64 F[m].p.1.sym] _ (range_eKey hEe) Tryz.underlying40 rfl Tryz.size40 ?_) | ((with_reducible show wpListIn _ _ _ _ _ (⟨_, .load 43 _, _, _, _, _⟩ :: _) _ _); refine in_load_mid rfl 43 _ rfl eb 2 rfl [.int .i64 F[m].p.2.val.kind, .bool F[m].p.2.val.bool, .float .f64 F[m].p.2.val.num, .string F[m].p.2.val.str, .int .i64 F[m].p.2.val.id, .int .i64 F[m].p.2.get.kind, .bool F[m].p.2.get.bool, .float .f64 F[m].p.2.get.num, .string F[m].p.2.get.str, .int .i64 F[m].p.2.get.id, .int .i64 F[m].p.2.set.kind, .bool F[m].p.2.set.bool, .float .f64 F[m].p.2.set.num, .string F[m].p.2.set.str, .int .i64 F[m].p.2.set.id, .int .i64 F[m].p.2.w, .int .i64 F[m].p.2.e, .int .i64 F[m].p.2.c] _ (range_eDs hEe) Tryz.underlying43 rfl Tryz.size43 ?_))
      refine hR.mono ?_
      rintro e W3 (⟨rfl, hJ3, hk3⟩ | ⟨rfl, hJx3⟩)
      · clear hR hd hJm
        have hm1 : m + 1 ≤ F.length := hm
        replace hT := hT.low hk3.1 hlow
        replace hBn : Blk W3 Bn #[.pointer (some ⟨tb, 0, none⟩)] 142 := hk3.2 _ _ _ (.inr rfl) hBn
        replace hE := hk3.2 _ _ _ (.inl rfl) hEe
        replace hQ := hQ.trans hk3.1
        clear hEe hk3
        have hQ0 := hQ
        replace hQ := Below.refl W3.heap.size W3
        gi_wp2_with (first | ((with_reducible show wpListIn _ _ _ _ _ (⟨_, .load 245 _, _, _, _, _⟩ :: _) _ _); refine in_load_mid rfl 245 _ rfl eb 0 rfl (eArr F[m]).toList _ (range_e hE) Tryz.underlying245 rfl Tryz.size245 ?_) | ((with_reducible show wpListIn _ _ _ _ _ (⟨_, .load 142 _, _, _, _, _⟩ :: _) _ _); refine in_load1 rfl 142 _ rfl Bn 0 rfl (.pointer (some ⟨tb, 0, none⟩)) (Tryz.isAgg142 _) (hBn.cell 0) ?_) | ((with_reducible show wpListIn _ _ _ _ _ (⟨_, .alloc 245, _, _, _, _⟩ :: _) _ _); refine in_alloc rfl 245 rfl e0 zero245 ?_; intro wa hA hLa; have hqs := hQ.size; replace hT := hT.below hLa; replace hQ := hQ.trans (hLa.mono hqs); replace hBn := hBn.next hLa) | ((with_reducible show wpListIn _ _ _ _ _ (⟨_, .store 245 _ (.tmp 30), _, _, _, _⟩ :: _) _ _); refine in_store rfl 245 _ _ rfl _ (eArr F[m]) e0 245 rfl rfl hA Tryz.size245 rfl (eArr_one _) ?_; intro wq hA2 hOq; replace hT := hT.only hOq (by simpa using hT.tab.ne hA (by decide)) (by simpa using hT.map.ne hA) (by intro g hg; have h1 := hlow.2.2 g hg; have h2 := hQ0.size; simp; omega); replace hBn := hBn.only hOq (by simpa using hBn.ne hA (by decide)); have hQq := below_only hLa hOq (by simp); replace hA := hA2) | (gi_at_call 178; refine (callsIn_wide.2 (hbm.out _ hT)).mono ?_; rintro e wb ⟨rfl, hbb⟩; replace hT := hT.below hbb; replace hQ := hQq.trans (hbb.mono hQq.size); replace hBn := hBn.next hbb; replace hA := hA.next hbb) | ((with_reducible show wpListIn _ _ _ _ _ (⟨_, .store 245 _ (.tmp 17), _, _, _, _⟩ :: _) _ _); refine in_store rfl 245 _ _ rfl _ (eB F (m + 1)) (eArr F[m]) 245 rfl rfl hA (size245e F _) (by rw [eB_size]; rfl) (eB_one _ _) ?_; intro wz hS hOz))
        have hq : Below W3.heap.size W3 wz := below_only hQ hOz (by simp)
        have hQ0s := hQ0.size
        refine ⟨⟨m + 1, W3.heap.size, by rw [numAt_succ hm], rfl, rfl, ⟨hm1, hT.only hOz (by simpa using hT.tab.ne hA (by decide)) (by simpa using hT.map.ne hA) (by intro g hg; have h1 := hlow.2.2 g hg; simp; omega), hBn.only hOz (by simpa using hBn.ne hA (by decide)), hS, hQ0.trans (hq.mono (by omega)), hJ _ _ _ none hJ3 (below_grown hq) (by simp)⟩⟩, ?_⟩
        rw [meas_at HSP.out.1 HSP.out.2 hle, show Value.int .u64 (F[m].n : Nat) = Value.int .u64 (numAt F (m + 1) : Nat) by rw [numAt_succ hm], meas_at HSP.out.1 HSP.out.2 hm1]; omega
      · gi_wp2
        refine bodyPost_ret (results_none rfl _ _ _) rfl ?_
        exact ⟨⟨_, rfl⟩, .inr ⟨(F.map (·.p)).take (m + 1), List.take_prefix _ _, hJx3⟩⟩
    · obtain rfl : m = F.length := by omega
      have hd : decide (F.length < F.length) = false := by simp
      clear hY
      gi_wp2
      go_end0
      rw [List.take_of_length_le (by simp)] at hJm
      exact ⟨⟨_, rfl⟩, .inl ⟨_, rfl, hJm⟩⟩

end Go.Proofs.YtoalboilghgalaaGreatDoor
