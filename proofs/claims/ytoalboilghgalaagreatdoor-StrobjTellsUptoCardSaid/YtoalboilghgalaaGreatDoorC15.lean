/- Lemmas for this claim, in parts: Tget, Tget2. -/
import Derived.Test.YtoalboilghgalaaGreatDoorC14
import Derived.BigRegion
import Derived.Maps.AppendAt
set_option maxRecDepth 100000
set_option maxHeartbeats 4000000
set_option linter.unusedVariables false
set_option linter.unusedSimpArgs false
/- table.Get. -/
namespace Go.Proofs.YtoalboilghgalaaGreatDoor
open Go.RowKit
open Go.Proofs.Dc (V Ds Ky)
attribute [local go_sem] run_store_float

def tArr (ev : Value) (mb : Nat) (n : Nat) : Array Value := #[ev, .map (some mb), .int .u64 (n : Nat)]
theorem Blk.cellT {W : World} {b : Nat} {ev : Value} {mb n : Nat} (h : Blk W b (tArr ev mb n) 229) : ∀ j, W.cell? ⟨b, j, none⟩ = #[ev, .map (some mb), .int .u64 (n : Nat)][j]? := h.cell

/-- a table: its entries, its map, the number given last -/
structure TabG (base : Nat) (W : World) (tb : Nat) (ev : Value) (mb : Nat) (E : List GE) (M : List (Ky × Nat)) (last : Nat) : Prop where
  tab : Blk W tb (tArr ev mb last) 229
  row : W.ownsRow base 245 22 ev E.length (gAll E)
  map : MapIs W mb M
  ok : GOk E M last
/-- a table of just these properties; q: no number is greater -/
def TabSt (base : Nat) (W : World) (tb : Nat) (ev : Value) (mb : Nat) (L : List (Ky × Ds)) (q : Int) : Prop :=
  ∃ E M last, TabG base W tb ev mb E M last ∧ liveP E = L ∧ (last : Int) ≤ q

theorem GOk.len_le {E : List GE} {M : List (Ky × Nat)} {last : Nat} (h : GOk E M last) : E.length ≤ last := by
  have : ∀ (E : List GE) (s : Nat), (E.Pairwise fun a b => a.n < b.n) → (∀ e ∈ E, s < e.n) → (∀ e ∈ E, e.n ≤ last) → s ≤ last → s + E.length ≤ last := by
    intro E
    induction E with
    | nil => intro s _ _ _ h; simpa using h
    | cons a r ih =>
      intro s h1 h2 h3 _
      have h4 := List.pairwise_cons.1 h1
      have h5 := ih a.n h4.2 h4.1 (fun e he => h3 e (by simp [he])) (h3 a (by simp))
      have h6 := h2 a (by simp)
      rw [List.length_cons]; omega
  have := this E 0 h.nums h.pos h.last (Nat.zero_le _)
  omega
theorem live_len (E : List GE) : (live E).length ≤ E.length := (live_sub E).length_le

/-- an entry's cells, where the row lies -/
theorem TabG.entry {base : Nat} {W : World} {tb mb : Nat} {ev : Value} {E : List GE} {M : List (Ky × Nat)} {last : Nat} (h : TabG base W tb ev mb E M last) (hne : 0 < E.length) : ∃ g cap, ev = .slice (some ⟨g, 0, none⟩) E.length cap ∧ base ≤ g ∧ g < W.heap.size ∧
    ∀ i (hi : i < E.length) j, j < 22 → W.cell? ⟨g, i * 22 + j, none⟩ = (gCells E[i])[j]? := by
  obtain ⟨h1, h2⟩ := h.row
  rcases h2 with ⟨_, h2⟩ | ⟨g, cap, cur, hv, hg, hh, hn, hc, hs, ht⟩
  · omega
  · refine ⟨g, cap, hv, hg, (Array.getElem?_eq_some_iff.1 hh).1, fun i hi j hj => ?_⟩
    rw [cell_of_row _ _ _ _ _ _ hh]
    rw [← gAll_get E i j hi hj, ← ht, List.getElem?_take]
    rw [if_pos (by omega)]
    simp

theorem lookup_drew {W : World} {mb : Nat} {M : List (Ky × Nat)} (h : MapIs W mb M) (k : Ky) : (Instr.lookup 227 (.map (some mb)) (.agg #[.string k.str, .int .i64 k.sym]) true).run Tryz.prog W.drew =
    .ok (.tuple #[.int .i64 ((((placeM M k).map (·.2)).getD 0 : Nat) : Int), .bool ((placeM M k).map (·.2)).isSome]) W.drew := run_lookup_k (W := W.drew) h k
theorem tget_none (base : Nat) (k : Ky) (tb mb : Nat) (ev : Value) (E : List GE) (M : List (Ky × Nat)) (last : Nat) (w : World) (hB : TabG base w tb ev mb E M last) (hk : findE E k = none) :
    Calls Tryz.prog 251 #[.pointer (some ⟨tb, 0, none⟩), .agg (kArr k)] w fun e w' => e = .returned (.tuple #[.agg (dArr Dc.d0), .bool false]) ∧ Below w.heap.size w w' := by
  obtain ⟨hB, hrow, hmap, hok⟩ := hB
  have HM := Lib.hid hmap
  clear hmap hrow
  go_enter Tryz.func251, Tryz.ntmps251
  go_wp2_with (first | ((with_reducible show wpList _ _ _ (⟨_, .box 40 _, _, _, _, _⟩ :: _) _ _); refine wpList_box_blk rfl 40 _ rfl (kArr k) rfl ?_; intro w0 hK hL hs0; have hcK := hK.cellK; have hB0 := hB.next hL) | ((with_reducible show wpList _ _ _ (⟨_, .alloc 43, _, _, _, _⟩ :: _) _ _); refine wpList_alloc_blk rfl 43 rfl (dArr Dc.d0) zero43 ?_; intro w1 hR hL1 hs1; rw [hs0] at hR; have hK1 := hK.next hL1; have hB1 := hB0.next hL1; have hLL := more hL hL1; have hcK1 := hK1.cellK; have hcB1 := hB1.cellT; clear hs1 hcK))
  have hm1 : MapIs w1 mb M := by
    obtain ⟨es, clock, h1, h2⟩ := HM.out
    exact ⟨es, clock, (hLL.block mb (Array.getElem?_eq_some_iff.1 h1).1).trans h1, h2⟩
  have hlk := lookup_drew hm1 k
  rw [hok.place, hk] at hlk
  simp only [Option.getD_none, Option.isSome_none] at hlk
  clear hm1
  go_region
  go_wp2_with (first | ((with_reducible show wpList _ _ _ (⟨_, .store 43 _ _, _, _, _, _⟩ :: _) _ _); refine wpList_store_blk rfl 43 _ _ rfl (w.heap.size + 1) (dArr Dc.d0) (dArr Dc.d0) 43 rfl rfl (show Blk w1.drew (w.heap.size + 1) (dArr Dc.d0) 43 from hR) Tryz.size43 (Eq.refl 18) (dCells_one _) ?_; intro w9 hR9 hO9))
  exact bodyPost_ret (results_cell_tmp Tryz.results251 rfl hR9 Tryz.row43 Tryz.size43) rfl ⟨rfl, below_only hLL.drew hO9 (by simp)⟩

end Go.Proofs.YtoalboilghgalaaGreatDoor

/- table.Get: a key that stands. -/
namespace Go.Proofs.YtoalboilghgalaaGreatDoor
open Go.RowKit
open Go.Proofs.Dc (V Ds Ky)
attribute [local go_sem] run_store_float

section
variable {P : Program}
/-- a struct is read out of the middle of a block -/
theorem wpList_load_part {ops : Array Oper} {rest : List Oper} {op : Oper} {a : Act} {W : World} {Q : Exit → Act → World → Prop} (hw : Region.wanted op (yielded ops a.tmps) = true) (ty : TypeId) (x : Operand) (ho : op.op = .load ty x)
    (b o : Nat) (hx : a.eval x = .pointer (some ⟨b, o, none⟩)) {C : Array Value} (hb : ∀ j, j < C.size → W.cell? ⟨b, o + j, none⟩ = C[j]?) (hd : ∃ d, P.underlying ty = some d ∧ d.isRow = true) (hi : (P.info? ty).map (·.size) = some C.size)
    (h : wpList P ops Q rest (a.put op.dst (.agg C)) W) : wpList P ops Q (op :: rest) a W := by
  obtain ⟨d, hu, hd⟩ := hd
  rw [wpList, if_pos hw]
  refine .inl (wp_load_mid (P := P) ty x ho b o hx C.toList d (fun j v hv => ?_) hu hd (by rw [hi, Array.length_toList]) ?_)
  · have hj : j < C.size := by rw [List.getElem?_eq_some_iff] at hv; obtain ⟨h, _⟩ := hv; simpa using h
    rw [hb j hj]; simpa using hv
  · rw [Array.toArray_toList]
    exact h
end

theorem tget_some (base : Nat) (k : Ky) (tb mb : Nat) (ev : Value) (E : List GE) (M : List (Ky × Nat)) (last : Nat) (w : World) (hB : TabG base w tb ev mb E M last) (i : Nat) (hi : i < E.length) (hk : findE E k = some i) :
    Calls Tryz.prog 251 #[.pointer (some ⟨tb, 0, none⟩), .agg (kArr k)] w fun e w' => e = .returned (.tuple #[.agg (dArr E[i].p.2), .bool true]) ∧ Below w.heap.size w w' := by
  obtain ⟨g, cap, rfl, _, hglt, hent⟩ := hB.entry (by omega)
  obtain ⟨hB, hrow, hmap, hok⟩ := hB
  have HM := Lib.hid hmap
  have HE := Lib.hid hent
  have hd : ∀ j, j < 18 → (gCells E[i])[2 + j]? = (dArr E[i].p.2)[j]? := by
    intro j hj
    unfold gCells
    rw [List.append_assoc, List.getElem?_append_right (by simp [kArr])]
    rw [List.getElem?_append_left (by simp [kArr, dArr]; omega)]
    simp [kArr]
  have HD := Lib.hid hd
  clear hmap hrow hent hd
  go_enter Tryz.func251, Tryz.ntmps251
  go_wp2_with (first | ((with_reducible show wpList _ _ _ (⟨_, .box 40 _, _, _, _, _⟩ :: _) _ _); refine wpList_box_blk rfl 40 _ rfl (kArr k) rfl ?_; intro w0 hK hL hs0; have hcK := hK.cellK; have hB0 := hB.next hL) | ((with_reducible show wpList _ _ _ (⟨_, .alloc 43, _, _, _, _⟩ :: _) _ _); refine wpList_alloc_blk rfl 43 rfl (dArr Dc.d0) zero43 ?_; intro w1 hR hL1 hs1; rw [hs0] at hR; have hK1 := hK.next hL1; have hB1 := hB0.next hL1; have hLL := more hL hL1; have hcK1 := hK1.cellK; have hcB1 := hB1.cellT; clear hs1 hcK))
  have hm1 : MapIs w1 mb M := by
    obtain ⟨es, clock, h1, h2⟩ := HM.out
    exact ⟨es, clock, (hLL.block mb (Array.getElem?_eq_some_iff.1 h1).1).trans h1, h2⟩
  have hlk := lookup_drew hm1 k
  rw [hok.place, hk] at hlk
  simp only [Option.getD_some, Option.isSome_some] at hlk
  clear hm1
  go_region
  have hi1 : (0 : Int) ≤ (i : Int) ∧ (i : Int) < (E.length : Int) := by omega
  have hE1 : ∀ j, j < (dArr E[i].p.2).size → w1.drew.cell? ⟨g, i * 22 + 2 + j, none⟩ = (dArr E[i].p.2)[j]? := fun j hj => by
    have h1 := hLL.cell (p := ⟨g, i * 22 + 2 + j, none⟩) hglt
    refine (show w1.drew.cell? ⟨g, i * 22 + 2 + j, none⟩ = w.cell? ⟨g, i * 22 + 2 + j, none⟩ from h1).trans ?_
    rw [Nat.add_assoc]
    exact (HE.out i hi (2 + j) (by have : (dArr E[i].p.2).size = 18 := rfl; omega)).trans (HD.out j hj)
  have HE1 := Lib.hid hE1
  clear hE1
  go_wp2_with (first | ((with_reducible show wpList _ _ _ (⟨_, .load 43 _, _, _, _, _⟩ :: _) _ _); refine wpList_load_part rfl 43 _ rfl g (i * 22 + 2) rfl HE1.out Tryz.row43 Tryz.size43 ?_) | ((with_reducible show wpList _ _ _ (⟨_, .store 43 _ _, _, _, _, _⟩ :: _) _ _); refine wpList_store_blk rfl 43 _ _ rfl (w.heap.size + 1) (dArr E[i].p.2) (dArr Dc.d0) 43 rfl rfl (show Blk w1.drew (w.heap.size + 1) (dArr Dc.d0) 43 from hR) Tryz.size43 (Eq.refl 18) (dCells_one _) ?_; intro w9 hR9 hO9))
  exact bodyPost_ret (results_cell_tmp Tryz.results251 rfl hR9 Tryz.row43 Tryz.size43) rfl ⟨rfl, below_only hLL.drew hO9 (by simp)⟩

end Go.Proofs.YtoalboilghgalaaGreatDoor
