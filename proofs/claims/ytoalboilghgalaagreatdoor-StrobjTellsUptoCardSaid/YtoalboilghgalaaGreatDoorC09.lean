/- Lemmas for this claim, in parts: Boxes, Laws. -/
import Derived.Test.YtoalboilghgalaaGreatDoorC08
import Derived.Deep.MidRow
import Derived.Deep.WholeRow
set_option maxRecDepth 100000
set_option maxHeartbeats 4000000
set_option linter.unusedVariables false
set_option linter.unusedSimpArgs false
/- What a world keeps: a block as it lies; all but some blocks. -/
namespace Go.Proofs.YtoalboilghgalaaGreatDoor
open Go.RowKit
open Go.Proofs.Dc (V Ds Ky)

/-- block b holds just these cells -/
def Blk (W : World) (b : Nat) (C : Array Value) (t : TypeId) : Prop := W.heap[b]? = some (.cells C t (0, 0))

theorem Blk.lt {W : World} {b : Nat} {C : Array Value} {t : TypeId} (h : Blk W b C t) : b < W.heap.size := (Array.getElem?_eq_some_iff.1 h).1
theorem Blk.cell {W : World} {b : Nat} {C : Array Value} {t : TypeId} (h : Blk W b C t) : ∀ j, W.cell? ⟨b, j, none⟩ = C[j]? := fun _ => cell_of_row _ _ _ _ _ _ h
theorem Blk.frozen {W : World} {b : Nat} {C : Array Value} {t : TypeId} (h : Blk W b C t) : ∀ j, W.frozen? ⟨b, j, none⟩ = false := fun j => by
  unfold World.frozen?
  rw [show W.heap[(⟨b, j, none⟩ : Addr).block]? = some (.cells C t (0, 0)) from h]
  simp
theorem Blk.next {W W' : World} {b : Nat} {C : Array Value} {t : TypeId} (h : Blk W b C t) (hb : Below W.heap.size W W') : Blk W' b C t := (hb.block b h.lt).trans h
theorem Blk.new (w : World) (C : Array Value) (t : TypeId) : Blk (w.alloc (.cells C t)) w.heap.size C t := heap_alloc_new w _
theorem Blk.alloc {W : World} {b : Nat} {C : Array Value} {t : TypeId} (h : Blk W b C t) (o : Obj) : Blk (W.alloc o) b C t := h.next (one _ _)

/-- w' is w but for the blocks of S, and new ones -/
structure Only (S : List Nat) (w w' : World) : Prop where
  os : w'.os = w.os
  tape : w'.tape = w.tape
  output : w'.output = w.output
  size : w.heap.size ≤ w'.heap.size
  block : ∀ k, k < w.heap.size → k ∉ S → w'.heap[k]? = w.heap[k]?

theorem Only.refl (S : List Nat) (w : World) : Only S w w := ⟨rfl, rfl, rfl, Nat.le_refl _, fun _ _ _ => rfl⟩
theorem Only.trans {S : List Nat} {a b c : World} (h : Only S a b) (k : Only S b c) : Only S a c :=
  ⟨k.os.trans h.os, k.tape.trans h.tape, k.output.trans h.output, Nat.le_trans h.size k.size, fun i hi hn => (k.block i (Nat.lt_of_lt_of_le hi h.size) hn).trans (h.block i hi hn)⟩
theorem Only.of_below {S : List Nat} {w w' : World} (h : Below w.heap.size w w') : Only S w w' := ⟨h.os, h.tape, h.output, h.size, fun k hk _ => h.block k hk⟩
/-- blocks that came later do not count -/
theorem Only.mono {S S' : List Nat} {w w' : World} (h : Only S w w') (hS : ∀ b, b ∈ S → b ∈ S' ∨ w.heap.size ≤ b) : Only S' w w' :=
  ⟨h.os, h.tape, h.output, h.size, fun k hk hn => h.block k hk fun hm => by rcases hS k hm with h | h; exact hn h; omega⟩
theorem Only.below {S : List Nat} {w w' : World} (h : Only S w w') (n : Nat) (hn : n ≤ w.heap.size) (hS : ∀ b, b ∈ S → n ≤ b) : Below n w w' :=
  ⟨h.os, h.tape, h.output, h.size, fun k hk => h.block k (by omega) fun hm => by have := hS k hm; omega⟩
theorem Only.then {S S' : List Nat} {a b c : World} (h : Only S a b) (k : Only S' b c) (hS : ∀ x, x ∈ S' → x ∈ S ∨ a.heap.size ≤ x) : Only S a c :=
  ⟨k.os.trans h.os, k.tape.trans h.tape, k.output.trans h.output, Nat.le_trans h.size k.size, fun i hi hn => (k.block i (Nat.lt_of_lt_of_le hi h.size) fun hm => by
    rcases hS i hm with h | h
    · exact hn h
    · omega).trans (h.block i hi hn)⟩
theorem Blk.only {S : List Nat} {W W' : World} {b : Nat} {C : Array Value} {t : TypeId} (h : Blk W b C t) (ho : Only S W W') (hb : b ∉ S) : Blk W' b C t := (ho.block b h.lt hb).trans h
theorem Tabs.only {S : List Nat} {w w' : World} (h : Tabs w) (ho : Only S w w') (h3 : Tryz.lays197_ren.g 3 ∉ S) (h4 : Tryz.lays197_ren.g 4 ∉ S) : Tabs w' := h.keep (ho.block _ h.lt.1 h3) (ho.block _ h.lt.2 h4)

theorem only_setRow {W : World} {b : Nat} {C old : Array Value} {t : TypeId} (h : Blk W b old t) : Blk (W.setRow b C) b C t ∧ Only [b] W (W.setRow b C) :=
  ⟨setRow_heap W b old C t (0, 0) h, rfl, rfl, rfl, by simp, fun k _ hn => setRow_other W b k C (by simpa using hn)⟩

section
variable {P : Program}
/-- a whole struct is stored into a block of its own -/
theorem wpList_store_blk {ops : Array Oper} {rest : List Oper} {o : Oper} {a : Act} {W : World} {Q : Exit → Act → World → Prop} (hgd : o.guard = none) (ty : TypeId) (x y : Operand) (ho : o.op = .store ty x y)
    (b : Nat) (C old : Array Value) (t : TypeId) (hx : a.eval x = .pointer (some ⟨b, 0, none⟩)) (hy : a.eval y = .agg C) (hb : Blk W b old t) (hi : (P.info? ty).map (·.size) = some C.size) (hold : old.size = C.size)
    (h1 : C.all (·.oneCell') = true) (h : ∀ W', Blk W' b C t → Only [b] W W' → wpList P ops Q rest (a.put o.dst undef) W') : wpList P ops Q (o :: rest) a W :=
  wpList_plain hgd fun _ hK => wp_store_row ty x y ho b C hx hy t old hb hi hold h1 (hK _ _ (h _ (only_setRow hb).1 (only_setRow hb).2))
end

theorem vCells_one (v : V) : (vCells v).toArray.all (·.oneCell') = true := by simp [Value.oneCell']
theorem dCells_one (d : Ds) : (dCells d).toArray.all (·.oneCell') = true := by simp [Value.oneCell']

theorem undef_any (w : World) : Calls Tryz.prog 224 #[] w fun e w' => e = .returned (vAgg Dc.vU) ∧ Below w.heap.size w w' := by
  have c0 := fun w => undef_open w
  have hB := Blk.new w #[.int .i64 0, .bool false, .float .f64 0, .string ⟨#[]⟩, .int .i64 0] 36
  go_enter Tryz.func224, Tryz.ntmps224
  go_wp2_with (first | (go_at_call 240; refine (c0 _).mono ?_; rintro e w1 ⟨rfl, hb1⟩; have hB1 := hB.next hb1) | ((with_reducible show wpList _ _ _ (⟨_, .store 36 _ _, _, _, _, _⟩ :: _) _ _); refine wpList_store_blk rfl 36 _ _ rfl w.heap.size (vCells Dc.vU).toArray _ 36 rfl rfl hB1 (by kernel_rfl) rfl (vCells_one _) ?_; intro w2 hB2 hO2; have hc2 := hB2.cell))
  refine bodyPost_ret (v := vAgg Dc.vU) (by simp [results, Tryz.results224, go_sem, hc2]) rfl ⟨rfl, ?_⟩
  exact (more (one _ _) hb1).trans (hO2.below _ (more (one _ _) hb1).size (by simp))

end Go.Proofs.YtoalboilghgalaaGreatDoor

/- Laws at the operation: a whole struct goes into a new block, out of a block, into a block; behind each the world is a variable. -/
namespace Go.Proofs.YtoalboilghgalaaGreatDoor
open Go.RowKit
open Go.Proofs.Dc (V Ds Ky)

section
variable {P : Program}

theorem run_box_agg (w : World) (ty : TypeId) (C : Array Value) : (Instr.box ty (.agg C)).run P w = .ok (.pointer (some ⟨w.heap.size, 0, none⟩)) (w.alloc (.cells C ty)) := by
  simp [Instr.box, newVar, Value.cells, go_sem]

theorem wpList_box_blk {ops : Array Oper} {rest : List Oper} {o : Oper} {a : Act} {W : World} {Q : Exit → Act → World → Prop} (hgd : o.guard = none) (ty : TypeId) (x : Operand) (ho : o.op = .box ty x)
    (C : Array Value) (hx : a.eval x = .agg C) (h : ∀ W', Blk W' W.heap.size C ty → Below W.heap.size W W' → W'.heap.size = W.heap.size + 1 → wpList P ops Q rest (a.put o.dst (.pointer (some ⟨W.heap.size, 0, none⟩))) W') : wpList P ops Q (o :: rest) a W :=
  wpList_plain hgd fun _ hK => by
    unfold Oper.wp execOp
    simp only [ho, hx, Sem.run_bind, run_box_agg, Result.andThen_ok, Sem.run_pure]
    exact hK _ _ (h _ (Blk.new _ _ _) (one _ _) (by simp))

theorem wpList_alloc_blk {ops : Array Oper} {rest : List Oper} {o : Oper} {a : Act} {W : World} {Q : Exit → Act → World → Prop} (hgd : o.guard = none) (ty : TypeId) (ho : o.op = .alloc ty) (Z : Array Value)
    (hz : ∀ w, (zeroValue ty).run P w = .ok (.agg Z) w) (h : ∀ W', Blk W' W.heap.size Z ty → Below W.heap.size W W' → W'.heap.size = W.heap.size + 1 → wpList P ops Q rest (a.put o.dst (.pointer (some ⟨W.heap.size, 0, none⟩))) W') : wpList P ops Q (o :: rest) a W :=
  wpList_plain hgd fun _ hK => by
    unfold Oper.wp execOp
    simp [ho, Instr.alloc, hz, newVar, Value.cells, go_sem]
    exact hK _ _ (h _ (Blk.new _ _ _) (one _ _) (by simp))

theorem wpList_load_blk {ops : Array Oper} {rest : List Oper} {op : Oper} {a : Act} {W : World} {Q : Exit → Act → World → Prop} (hgd : op.guard = none) (ty : TypeId) (x : Operand) (ho : op.op = .load ty x)
    (b : Nat) (hx : a.eval x = .pointer (some ⟨b, 0, none⟩)) {C : Array Value} {t : TypeId} (hb : Blk W b C t) (hd : ∃ d, P.underlying ty = some d ∧ d.isRow = true) (hi : (P.info? ty).map (·.size) = some C.size)
    (h : wpList P ops Q rest (a.put op.dst (.agg C)) W) : wpList P ops Q (op :: rest) a W := by
  obtain ⟨d, hu, hd⟩ := hd
  have := wpList_load_mid (P := P) (ops := ops) (rest := rest) (op := op) (a := a) (w := W) (Q := Q) hgd ty x ho b 0 hx C.toList d (fun j v hv => by rw [Nat.zero_add, hb.cell]; simpa using hv) hu hd (by rw [hi, Array.length_toList])
  simp only [Array.toArray_toList] at this
  exact this h
end

end Go.Proofs.YtoalboilghgalaaGreatDoor
