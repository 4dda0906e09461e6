/- Lemmas for this claim, in parts: Props0, Tdel1. -/
import Derived.Test.YtoalboilghgalaaGreatDoorC26
import Derived.RangeFuncNested
import Derived.Test.YtoalboilghgalaaGreatDoorC25
set_option maxRecDepth 100000
set_option maxHeartbeats 4000000
set_option linter.unusedVariables false
set_option linter.unusedSimpArgs false
/- table.Props: words. -/
namespace Go.Proofs.YtoalboilghgalaaGreatDoor
open Go.RowKit
open Go.Proofs.Dc (V Ds Ky)
attribute [local go_sem] run_store_float

/-- a property: its cells -/
def pCells (p : Ky × Ds) : List Value := (kArr p.1).toList ++ (dArr p.2).toList
def pAll : List (Ky × Ds) → List Value
  | [] => []
  | p :: r => pCells p ++ pAll r
theorem pAll_snoc : ∀ (L : List (Ky × Ds)) (p : Ky × Ds), pAll (L ++ [p]) = pAll L ++ pCells p
  | [], p => by simp [pAll]
  | q :: r, p => by simp [pAll, pAll_snoc r p]
theorem pAll_length : ∀ (L : List (Ky × Ds)), (pAll L).length = L.length * 20
  | [] => rfl
  | p :: r => by
    have h : (pCells p).length = 20 := rfl
    rw [pAll, List.length_append, h, pAll_length r]; simp; omega
theorem Tryz.info45 : (Tryz.prog.info? 45).map (fun i => (i.zero, i.size, i.bytes)) = some (some (.agg #[.string ⟨#[]⟩, .int .i64 0, .int .i64 0, .bool false, .float .f64 0, .string ⟨#[]⟩, .int .i64 0, .int .i64 0, .bool false, .float .f64 0, .string ⟨#[]⟩, .int .i64 0, .int .i64 0, .bool false, .float .f64 0, .string ⟨#[]⟩, .int .i64 0, .int .i64 0, .int .i64 0, .int .i64 0]), 20, 192) := by kernel_rfl
/-- a row, as it lies -/
structure RowAt (W : World) (base e size g n cap : Nat) (xs : List Value) : Prop where
  base : base ≤ g
  lies : ∃ cur, Blk W g cur e ∧ n ≤ cap ∧ cap ≤ maxLen ∧ cur.size = cap * size ∧ cur.toList.take (n * size) = xs
  len : xs.length = n * size
theorem RowAt.owns {W : World} {base e size g n cap : Nat} {xs : List Value} (h : RowAt W base e size g n cap xs) : W.ownsRow base e size (.slice (some ⟨g, 0, none⟩) n cap) n xs := by
  obtain ⟨hb, ⟨cur, h1, h2, h3, h4, h5⟩, hl⟩ := h
  exact ⟨hl, .inr ⟨g, cap, cur, rfl, hb, h1, h2, h3, h4, h5⟩⟩
theorem RowAt.of {W : World} {base e size g n cap : Nat} {xs : List Value} (h : W.ownsRow base e size (.slice (some ⟨g, 0, none⟩) n cap) n xs) : RowAt W base e size g n cap xs := by
  obtain ⟨hl, h2⟩ := h
  rcases h2 with ⟨h2, _⟩ | ⟨g', cap', cur, hv, hg, hh, hn, hc, hs, ht⟩
  · cases h2
  · simp only [Value.slice.injEq, Option.some.injEq, Addr.mk.injEq] at hv
    obtain ⟨⟨rfl, _⟩, _, rfl⟩ := hv
    exact ⟨hg, ⟨cur, hh, hn, hc, hs, ht⟩, hl⟩
theorem RowAt.keep {W W' : World} {base e size g n cap : Nat} {xs : List Value} (h : RowAt W base e size g n cap xs) (hk : ∀ C, Blk W g C e → Blk W' g C e) : RowAt W' base e size g n cap xs := by
  obtain ⟨hb, ⟨cur, h1, h2⟩, hl⟩ := h
  exact ⟨hb, ⟨cur, hk _ h1, h2⟩, hl⟩
theorem RowAt.next {W W' : World} {base e size g n cap : Nat} {xs : List Value} (h : RowAt W base e size g n cap xs) (hb : Below W.heap.size W W') : RowAt W' base e size g n cap xs := h.keep fun _ hB => hB.next hb
theorem RowAt.lt {W : World} {base e size g n cap : Nat} {xs : List Value} (h : RowAt W base e size g n cap xs) : g < W.heap.size := by obtain ⟨cur, h1, _⟩ := h.lies; exact h1.lt
theorem Blk.own {A B : World} {row : Option Nat} {b : Nat} {C : Array Value} {t : TypeId} (h : Blk A b C t) (hg : A.grownBy B row) (hr : ∀ r, row = some r → ∃ o : Obj, A.heap[r]? = some o ∧ o.isCells = false) : Blk B b C t := by
  refine (hg.block b h.lt fun e => ?_).trans h
  obtain ⟨o, ho, hc⟩ := hr b e.symm
  unfold Blk at h; rw [h] at ho; cases ho; cases hc

section
variable {F : Fence} {n : Nat} {P : Program} {ops : Array Oper} {rest : List Oper} {o : Oper} {a : Act} {W : World} {Q : Exit → Act → World → Prop}
theorem run_storeVar1 (b : Nat) (t ty : TypeId) (old v : Value) (hb : Blk W b #[old] t) (hi : (P.info? ty).map (·.size) = some 1) (hC : v.cells = #[v]) (h1 : v.oneCell' = true) : (storeVar ty ⟨b, 0, none⟩ v).run P W = .ok () (W.setRow b #[v]) := by
  have h := run_storeVar_row (P := P) W b t ty #[old] #[v] hb hi rfl (by simp [h1])
  have e : storeVar ty ⟨b, 0, none⟩ v = storeVar ty ⟨b, 0, none⟩ (.agg #[v]) := by
    unfold storeVar
    rw [hC]
    rfl
  rw [e]; exact h
theorem in_store1 (hg : o.guard = none) (ty : TypeId) (x y : Operand) (ho : o.op = .store ty x y) (b : Nat) (old v : Value) (t : TypeId) (hx : a.eval x = .pointer (some ⟨b, 0, none⟩)) (hy : a.eval y = v) (hb : Blk W b #[old] t) (hi : (P.info? ty).map (·.size) = some 1) (hC : v.cells = #[v])
    (h1 : v.oneCell' = true) (h : ∀ W', Blk W' b #[v] t → Only [b] W W' → wpListIn F n P ops Q rest (a.put o.dst undef) W') : wpListIn F n P ops Q (o :: rest) a W := by
  have hr : (execOp a.eval o).run P W = .ok .skip (W.setRow b #[v]) := by
    unfold execOp
    simp only [ho, hx, hy, Instr.storeAt, Instr.sureAddr, Sem.run_bind, Sem.run_pure, Result.andThen_ok, run_storeVar1 b t ty old v hb hi hC h1]
  exact in_skip hg (by rw [ho]; intro c hc'; cases hc') (by simp [Oper.about, ho]) hr (h _ (only_setRow hb).1 (only_setRow hb).2)
theorem in_alloc1 (hg : o.guard = none) (ty : TypeId) (ho : o.op = .alloc ty) (z : Value) (hz : ∀ w, (zeroValue ty).run P w = .ok z w) (hC : z.cells = #[z])
    (h : ∀ W', Blk W' W.heap.size #[z] ty → Below W.heap.size W W' → wpListIn F n P ops Q rest (a.put o.dst (.pointer (some ⟨W.heap.size, 0, none⟩))) W') : wpListIn F n P ops Q (o :: rest) a W :=
  in_value (W' := W.alloc (.cells #[z] ty)) hg (by rw [ho]; intro c hc'; cases hc') (by simp [Oper.about, ho]) (by unfold execOp; unfold Value.cells at hC; simp [ho, Instr.alloc, hz, newVar, Value.cells, hC, go_sem]) (h _ (Blk.new _ _ _) (one _ _))
end
/-- the length of the map -/
theorem run_len_k {W : World} {b : Nat} {K : List (Ky × Nat)} (h : MapIs W b K) (ty : TypeId) : (Builtin.len_ #[227] ty #[.map (some b)]).run Tryz.prog W = .ok (.int .i64 (K.length : Int)) W := by
  obtain ⟨es, clock, hb, he⟩ := h
  have hl : es.size = K.length := by
    have := congrArg List.length he
    simpa using this
  have hg : (getObj b).run Tryz.prog W = .ok (.map es clock) W := by simp [getObj, Sem.run, hb]
  unfold Builtin.len_
  simp [Sem.run_bind, run_underlying Tryz.underlying227, hg, hl, goInt]

end Go.Proofs.YtoalboilghgalaaGreatDoor

/- slices.Clone of entries. -/
namespace Go.Proofs.YtoalboilghgalaaGreatDoor
open Go.RowKit
open Go.Proofs.Dc (V Ds Ky)
attribute [local go_sem] run_store_float

attribute [local go_sem] Oper.semAt_some
theorem addr_addE (g j : Nat) : (⟨g, 0, none⟩ : Addr).add j = ⟨g, j, none⟩ := by unfold Addr.add; by_cases h : j = 0 <;> simp [h]
theorem eq226_row (g : Nat) (n c : Nat) (w : World) : (binOp .eql 226 (.slice (some ⟨g, 0, none⟩) n c) (.slice none 0 0)).run Tryz.prog w = .ok (.bool false) w := by kernel_rfl
theorem gAll_one : ∀ (E : List GE), ∀ u ∈ gAll E, u.oneCell' = true
  | [], u, h => by cases h
  | e :: r, u, h => by
    rw [gAll] at h
    rcases List.mem_append.1 h with h | h
    · have := eArr_one e
      rw [← Array.all_toList, List.all_eq_true] at this
      exact this u (by rw [eArr_list]; exact h)
    · exact gAll_one r u h

theorem clone_ent (g cap : Nat) (E : List GE) (w : World) (h0 : 0 < E.length) (hNm : E.length ≤ 1000000) (hrow : ∀ j u, (gAll E)[j]? = some u → w.cell? ⟨g, j, none⟩ = some u) (hg : g < w.heap.size) :
    Calls Tryz.prog 258 #[.slice (some ⟨g, 0, none⟩) E.length cap] w fun e w' => ∃ g' cap', e = .returned (.slice (some ⟨g', 0, none⟩) E.length cap') ∧ w'.ownsRow w.heap.size 245 22 (.slice (some ⟨g', 0, none⟩) E.length cap') E.length (gAll E) ∧ Below w.heap.size w w' := by
  obtain ⟨i0, hi0, hz0, hz1, hz2⟩ := info_parts Tryz.info245
  have hlen := gAll_length E
  have hnews : ∀ W, Below w.heap.size w W → ∀ j u, (gAll E)[j]? = some u → W.cell? ((⟨g, 0, none⟩ : Addr).add j) = some u := fun W hb j u hu => by
    rw [addr_addE, hb.cell (p := ⟨g, j, none⟩) hg]
    exact hrow j u hu
  have h1 : ∀ u ∈ gAll E, u.oneCell' = true := gAll_one E
  have HN := Lib.hid hnews
  have HL := Lib.hid hlen
  clear hnews hlen hrow
  have he := eq226_row g E.length cap
  go_enter Tryz.func258, Tryz.ntmps258
  have hw1 : (w.alloc (.cells #[] 245)).ownsRow w.heap.size 245 22 (.slice (some ⟨w.heap.size, 0, none⟩) 0 0) 0 [] := ⟨rfl, .inr ⟨w.heap.size, 0, #[], rfl, Nat.le_refl _, heap_alloc_new w _, Nat.le_refl _, Nat.zero_le _, rfl, rfl⟩⟩
  have HW1 := Lib.hid hw1
  have hsz : w.heap.size ≤ (w.alloc (.cells #[] 245)).heap.size := by simp
  have HSZ := Lib.hid hsz
  clear hw1 hsz
  go_wp2_with ((with_reducible show wpList _ _ _ (⟨some 7, .call _, _, _, _, _⟩ :: _) _ _); refine Hid.out ?_)
  refine Lib.hid ?_
  refine wpList_append_own_at _ rfl (.tmp 5) (.tmp 6) 226 rfl w.heap.size 245 i0 _ 22 208 Tryz.underlying226 hi0 hz0 hz1 hz2 rfl (by decide) (.slice (some ⟨w.heap.size, 0, none⟩) 0 0) 0 [] rfl HW1.out ⟨g, 0, none⟩ E.length cap (gAll E) rfl HL.out (HN.out _ (one w _)) h1 (by unfold maxLen; omega) (by omega) HSZ.out ?_
  intro v' w2 hown hgr _ hat
  obtain ⟨g', cap', rfl, hg', _⟩ := World.ownsRow.form hown (by omega)
  go_wp2
  go_ret
  exact ⟨g', cap', by simp, by simpa using hown, (one w _).trans ⟨hgr.os, hgr.tape, hgr.output, Nat.le_trans (by simp) hgr.size, fun k hk => hgr.block k (by simp; omega) (fun e => by simp [Value.ownBlock] at e; omega)⟩⟩


end Go.Proofs.YtoalboilghgalaaGreatDoor
