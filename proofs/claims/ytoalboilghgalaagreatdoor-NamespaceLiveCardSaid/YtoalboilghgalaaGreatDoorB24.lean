/- Lemmas for this claim, in parts: Behind. -/
import Derived.Test.YtoalboilghgalaaGreatDoorB18
import Derived.Deep.LoopGhost
import Derived.Lib.Walk
set_option maxRecDepth 100000
set_option maxHeartbeats 4000000
set_option linter.unusedVariables false
set_option linter.unusedSimpArgs false
/- table.behind. -/
namespace Go.Proofs.YtoalboilghgalaaGreatDoor
open Go.RowKit
open Go.Proofs.Dc (V Ds Ky)
attribute [local go_sem] run_store_float

/-- an entry -/
def eArr (p : Ky × Ds) (n : Nat) : Array Value := #[.string p.1.str, .int .i64 p.1.sym, .int .i64 p.2.val.kind, .bool p.2.val.bool, .float .f64 p.2.val.num, .string p.2.val.str, .int .i64 p.2.val.id, .int .i64 p.2.get.kind, .bool p.2.get.bool, .float .f64 p.2.get.num, .string p.2.get.str, .int .i64 p.2.get.id, .int .i64 p.2.set.kind, .bool p.2.set.bool, .float .f64 p.2.set.num, .string p.2.set.str, .int .i64 p.2.set.id, .int .i64 p.2.w, .int .i64 p.2.e, .int .i64 p.2.c, .int .u64 (n : Nat), .bool false]
theorem eArr_list (p : Ky × Ds) (n : Nat) : (eArr p n).toList = eCells p n := rfl
theorem eArr_one (p : Ky × Ds) (n : Nat) : (eArr p n).all (·.oneCell') = true := by simp [eArr, Value.oneCell']
theorem Tryz.row245 : ∃ d, Tryz.prog.underlying 245 = some d ∧ d.isRow = true := ⟨_, Tryz.underlying245, rfl⟩
theorem Tryz.size245 : (Tryz.prog.info? 245).map (·.size) = some 22 := by kernel_rfl
def e0 : Array Value := #[.string ⟨#[]⟩, .int .i64 0, .int .i64 0, .bool false, .float .f64 0, .string ⟨#[]⟩, .int .i64 0, .int .i64 0, .bool false, .float .f64 0, .string ⟨#[]⟩, .int .i64 0, .int .i64 0, .bool false, .float .f64 0, .string ⟨#[]⟩, .int .i64 0, .int .i64 0, .int .i64 0, .int .i64 0, .int .u64 0, .bool false]
theorem zero245 (w : World) : (zeroValue 245).run Tryz.prog w = .ok (.agg e0) w := by kernel_rfl
theorem e0_one : e0.all (·.oneCell') = true := by simp [e0, Value.oneCell']
theorem Blk.cellE {W : World} {b : Nat} {p : Ky × Ds} {n : Nat} (h : Blk W b (eArr p n) 245) : W.cell? ⟨b, 20, none⟩ = some (.int .u64 (n : Nat)) := h.cell 20

theorem b1_lt (p : Ky × Ds) (m t : Nat) (w : World) (h : m < t) : Calls Tryz.prog 187 #[.agg (eArr p m), .int .u64 (t : Nat)] w fun e w' => e = .returned (.int .i64 (-1)) ∧ Below w.heap.size w w' := by
  have hd : decide (m < t) = true := by simpa using h
  clear h
  go_enter Tryz.func187, Tryz.ntmps187
  go_wp2_with ((with_reducible show wpList _ _ _ (⟨_, .box 245 _, _, _, _, _⟩ :: _) _ _); refine wpList_box_blk rfl 245 _ rfl (eArr p m) rfl ?_; intro w0 hE hL hs; have hc := hE.cellE; clear hs)
  go_ret
  exact ⟨rfl, hL⟩

theorem b1_ge (p : Ky × Ds) (m t : Nat) (w : World) (h : ¬ m < t) : Calls Tryz.prog 187 #[.agg (eArr p m), .int .u64 (t : Nat)] w fun e w' => e = .returned (.int .i64 (1)) ∧ Below w.heap.size w w' := by
  have hd : decide (m < t) = false := by simpa using h
  clear h
  go_enter Tryz.func187, Tryz.ntmps187
  go_wp2_with ((with_reducible show wpList _ _ _ (⟨_, .box 245 _, _, _, _, _⟩ :: _) _ _); refine wpList_box_blk rfl 245 _ rfl (eArr p m) rfl ?_; intro w0 hE hL hs; have hc := hE.cellE; clear hs)
  go_ret
  exact ⟨rfl, hL⟩

theorem wpList_load_midW {P : Program} {ops : Array Oper} {rest : List Oper} {op : Oper} {a : Act} {w : World} {Q : Exit → Act → World → Prop} (hw : Region.wanted op (yielded ops a.tmps) = true) (ty : TypeId) (x : Operand) (ho : op.op = .load ty x)
    (b o : Nat) (hx : a.eval x = .pointer (some ⟨b, o, none⟩)) (cs : List Value) (d : TypeDesc) (hc : w.rangeAt b o cs) (hu : P.underlying ty = some d) (hd : d.isRow = true) (hi : (P.info? ty).map (·.size) = some cs.length)
    (h : wpList P ops Q rest (a.put op.dst (.agg cs.toArray)) w) : wpList P ops Q (op :: rest) a w := by
  rw [wpList, if_pos hw]
  exact .inl (wp_load_mid ty x ho b o hx cs d hc hu hd hi h)

theorem bs_any (base : Nat) (tb mb : Nat) (ev : Value) (L : List (Ky × Ds)) (w : World) (hB : TabSt base w tb ev mb L) (n : Nat) (hn : n ≤ L.length) :
    Calls Tryz.prog 186 #[ev, .int .u64 ((n : Int) + 1), .func (.func 187) #[] #[]] w fun e w' => e = .returned (.tuple #[.int .i64 (n : Nat), .bool false]) ∧ Below w.heap.size w w' := by
  obtain ⟨ep, ec, hev⟩ := row_slice hB.row
  subst hev
  have HN := Lib.hid hn
  have hlen := hB.len
  by_cases h0 : L.length = 0
  · have hn0 : n = 0 := by omega
    subst hn0
    rw [h0]
    clear hB HN hlen hn
    go_enter Tryz.func186, Tryz.ntmps186
    go_wp2
    refine wp_loop_rounds 1 ?_
    rw [rounds_succ]
    go_wp2
    go_ret2
    exact ⟨rfl, Below.refl _ _⟩
  · obtain ⟨g, cap, hev, _, hglt, hent⟩ := hB.entry (by omega)
    simp only [Value.slice.injEq] at hev
    obtain ⟨rfl, _, rfl⟩ := hev
    have HE : Hid (∀ wr, Below w.heap.size w wr → ∀ h (hh : h < L.length), wr.rangeAt g (h * 22) (eArr L[h] (h + 1)).toList) := Lib.hid fun wr hb h hh j v hv => by
      have hj : j < 22 := (List.getElem?_eq_some_iff.1 hv).1
      rw [hb.cell (p := ⟨g, h * 22 + j, none⟩) hglt, hent h hh j hj, ← eArr_list]
      exact hv
    have cLt := fun W p m (h : m < n + 1) => b1_lt p m (n + 1) W h
    have cGe := fun W p m (h : ¬ m < n + 1) => b1_ge p m (n + 1) W h
    clear hB hn hent
    go_enter Tryz.func186, Tryz.ntmps186
    go_wp2
    go_loopg [9, 10] L.length (fun fu s9 s10 wr => ∃ lo hi : Nat, s9 = .int .i64 lo ∧ s10 = .int .i64 hi ∧ lo ≤ n ∧ n ≤ hi ∧ hi ≤ L.length ∧ hi - lo ≤ fu ∧ Below w.heap.size w wr)
    case atStart => exact ⟨0, L.length, rfl, rfl, Nat.zero_le _, HN.out, Nat.le_refl _, by omega, Below.refl _ _⟩
    case round =>
      obtain ⟨lo, hi, rfl, rfl, h1, h2, h3, h4, hb⟩ := hrel
      have HB := Lib.hid hb
      clear hb
      by_cases hlt : lo < hi
      · obtain ⟨h, hh0⟩ : ∃ h, h = (lo + hi) / 2 := ⟨_, rfl⟩
        have hmid : ((lo : Int) + (hi : Int)) / 2 = (h : Int) := by omega
        have hh : h < L.length := by omega
        have hlh : lo ≤ h := by omega
        have hhh : h < hi := by omega
        have hi0 : (0 : Int) ≤ (h : Int) := by omega
        have hi1 : (h : Int) < (L.length : Int) := by omega
        have HH := Lib.hid hh0
        clear hh0
        by_cases hc : h < n
        · go_wp2_with (first | ((with_reducible show wpList _ _ _ (⟨_, .load 245 _, _, _, _, _⟩ :: _) _ _); refine wpList_load_mid rfl 245 _ rfl g (h * 22) rfl (eArr L[h] (h + 1)).toList _ (HE.out wr HB.out h hh) Tryz.underlying245 rfl Tryz.size245 ?_) | (go_at_call 187; refine (cLt _ _ _ (by omega)).mono ?_; rintro e wX ⟨rfl, hbX⟩))
          go_roundg (hi - (h + 1))
          case measure => omega
          case rel => exact ⟨h + 1, hi, by go_num, rfl, by omega, h2, h3, Nat.le_refl _, more HB.out hbX⟩
        · go_wp2_with (first | ((with_reducible show wpList _ _ _ (⟨_, .load 245 _, _, _, _, _⟩ :: _) _ _); refine wpList_load_mid rfl 245 _ rfl g (h * 22) rfl (eArr L[h] (h + 1)).toList _ (HE.out wr HB.out h hh) Tryz.underlying245 rfl Tryz.size245 ?_) | (go_at_call 187; refine (cGe _ _ _ (by omega)).mono ?_; rintro e wX ⟨rfl, hbX⟩))
          go_roundg (h - lo)
          case measure => omega
          case rel => exact ⟨lo, h, rfl, rfl, h1, by omega, by omega, Nat.le_refl _, more HB.out hbX⟩
      · obtain rfl : lo = n := by omega
        by_cases hln : lo < L.length
        · have hi0 : (0 : Int) ≤ (lo : Int) := by omega
          have hi1 : (lo : Int) < (L.length : Int) := by omega
          go_wp2_with (first | ((with_reducible show wpList _ _ _ (⟨_, .load 245 _, _, _, _, _⟩ :: _) _ _); refine wpList_load_midW (by rfl) 245 _ rfl g (lo * 22) rfl (eArr L[lo] (lo + 1)).toList _ (HE.out wr HB.out lo hln) Tryz.underlying245 rfl Tryz.size245 ?_) | (go_at_call 187; refine (cGe _ _ _ (by omega)).mono ?_; rintro e wX ⟨rfl, hbX⟩))
          go_ret2
          exact ⟨rfl, more HB.out hbX⟩
        · go_wp2
          go_ret2
          exact ⟨rfl, HB.out⟩


end Go.Proofs.YtoalboilghgalaaGreatDoor
